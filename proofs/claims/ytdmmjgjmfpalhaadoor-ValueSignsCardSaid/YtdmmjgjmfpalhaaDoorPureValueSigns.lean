/- The law of the signs of values, over plain values. No program is in sight. -/
import Derived.Test.YtdmmjgjmfpalhaaDoorShValueSigns
import Derived.Test.YtdmmjgjmfpalhaaDoorBv23
import Derived.Lib.ItoaLen
namespace Go.Proofs.YtdmmjgjmfpalhaaDoorBv
open Go
set_option linter.unusedSimpArgs false
set_option linter.unusedVariables false
theorem check_eq (v : TJVal) : value_Check v = clerestoryref4_ValueRight v := by
  obtain ⟨k, n, s⟩ := v
  unfold value_Check clerestoryref4_ValueRight clerestoryref4_ValueRight_j1 value_within clerestoryref4_Between
  simp only [letIn_eq]
  by_cases h0 : k = 0
  · subst h0; simp
  by_cases h1 : k = 1
  · subst h1
    rw [Bool.eq_iff_iff]
    simp
    constructor
    · rintro ⟨⟨h1, h2⟩, h3⟩
      rcases (show n = 0 ∨ n = 1 by omega) with rfl | rfl <;> simp [h3]
    · rintro (⟨h1, h2⟩ | ⟨h1, h2⟩) <;> subst h1 <;> simp [h2]
  by_cases h2 : k = 2
  · subst h2
    rw [Bool.eq_iff_iff]
    simp
    constructor
    · rintro ⟨⟨h1, h2⟩, h3⟩; exact ⟨h3, h1, h2⟩
    · rintro ⟨h3, h1, h2⟩; exact ⟨⟨h1, h2⟩, h3⟩
  by_cases h3 : k = 3
  · subst h3
    rw [Bool.eq_iff_iff]
    simp
    exact And.comm
  by_cases h4 : k = 4
  · subst h4
    rw [Bool.eq_iff_iff]
    simp
    constructor
    · rintro ⟨h1, h2⟩; exact ⟨h2, by omega⟩
    · rintro ⟨h1, h2⟩; exact ⟨by omega, h1⟩
  by_cases h5 : k = 5
  · subst h5; simp
  · simp [h0, h1, h2, h3, h4, h5]
theorem right_eq (v : TJVal) : value_right v = clerestoryref4_Taken v := by
  unfold value_right clerestoryref4_Taken
  rw [check_eq]
  cases clerestoryref4_ValueRight v <;> rfl
/-- what is taken is one of six kinds, within its bounds -/
theorem taken_bounds (v : TJVal) : 0 ≤ (clerestoryref4_Taken v).Kind ∧ (clerestoryref4_Taken v).Kind ≤ 5 ∧ ((clerestoryref4_Taken v).Kind = 0 → (clerestoryref4_Taken v).N = 0 ∧ (clerestoryref4_Taken v).S = []) ∧ ((clerestoryref4_Taken v).Kind = 1 → ((clerestoryref4_Taken v).N = 0 ∨ (clerestoryref4_Taken v).N = 1) ∧ (clerestoryref4_Taken v).S = []) ∧
    ((clerestoryref4_Taken v).Kind = 2 → (-9007199254740992 ≤ (clerestoryref4_Taken v).N ∧ (clerestoryref4_Taken v).N ≤ 9007199254740992) ∧ (clerestoryref4_Taken v).S = []) ∧ ((clerestoryref4_Taken v).Kind = 3 → (clerestoryref4_Taken v).N = 0) := by
  unfold clerestoryref4_Taken
  rw [← check_eq]
  split
  · rename_i h
    unfold value_Check value_within at h
    obtain ⟨k, n, s⟩ := v
    simp only [decide_eq_true_eq] at h
    split at h
    · rename_i h0; simp at h; simp [h0, h]
    split at h
    · rename_i h0; simp at h; simp [h0, h]; omega
    split at h
    · rename_i h0; simp at h; simp [h0, h]
    split at h
    · rename_i h0; simp at h; simp [h0, h]
    split at h
    · rename_i h0; simp at h; simp [h0, h]
    split at h
    · rename_i h0; simp at h; simp [h0, h]
    · cases h
  · simp
theorem taken_str (v : TJVal) : (clerestoryref4_Taken v).S.length ≤ v.S.length := by
  unfold clerestoryref4_Taken
  split <;> simp
theorem truth_eq (v : TJVal) : value_Truth v = clerestoryref4_IsTrue v := by
  unfold value_Truth value_Truth_j1 clerestoryref4_IsTrue
  rw [right_eq]
  have h := taken_bounds v
  generalize clerestoryref4_Taken v = u at h
  obtain ⟨k, n, s⟩ := u
  simp only at h ⊢
  obtain ⟨h1, h2, c0, c1, c2, c3⟩ := h
  rcases (show k = 0 ∨ k = 1 ∨ k = 2 ∨ k = 3 ∨ k = 4 ∨ k = 5 by omega) with rfl | rfl | rfl | rfl | rfl | rfl
  · simp [c0]
  · have := (c1 rfl).2; subst this; simp
  · have := (c2 rfl).2; subst this; simp
  · have := c3 rfl; subst this; simp
  · simp
  · simp
theorem digit_piece (n : Nat) (h : n < 10) : sub? ([48, 49, 50, 51, 52, 53, 54, 55, 56, 57] : List UInt8) (n : Int) (wi ((n : Int) + 1)) = some [UInt8.ofNat (48 + n)] := by
  have hall : ∀ m : Fin 10, sub? ([48, 49, 50, 51, 52, 53, 54, 55, 56, 57] : List UInt8) (m.val : Int) (wi ((m.val : Int) + 1)) = some [UInt8.ofNat (48 + m.val)] := by decide +kernel
  exact hall ⟨n, h⟩
theorem digits_loop : ∀ (d n : Nat), n ≤ d → n < 18446744073709551616 → n ≤ 9223372036854775807 → ∀ k, clerestoryref4_Digits_r (k + d + 1) (n : Int) = some (Lib.decDigits n)
  | d, n, hd, hn, hi, k => by
    by_cases h : n < 10
    · rw [clerestoryref4_Digits_r, if_pos (by simp only [decide_eq_true_eq]; omega), digit_piece n h, Option.bind_some, Lib.decDigits_one h]
    · obtain ⟨e, rfl⟩ : ∃ e, d = e + 1 := ⟨d - 1, by omega⟩
      have h1 : ((n : Int)).tdiv 10 = ((n / 10 : Nat) : Int) := by rw [Int.tdiv_eq_ediv_of_nonneg (by omega)]; omega
      have h2 : ((n : Int)).tmod 10 = ((n % 10 : Nat) : Int) := by rw [Int.tmod_eq_emod_of_nonneg (by omega)]; omega
      have r1 := digits_loop e (n / 10) (by omega) (by omega) (by omega) k
      have r2 := digits_loop e (n % 10) (by omega) (by omega) (by omega) k
      have l1 := Lib.nDigits_le20 (n / 10) (by omega)
      have l2 := Lib.nDigits_le20 (n % 10) (by omega)
      rw [clerestoryref4_Digits_r, if_neg (by simp only [decide_eq_true_eq]; omega), h1, h2, wi_id (by omega) (by omega), show k + (e + 1) = k + e + 1 by omega, r1, r2, Option.bind_some, Option.bind_some]
      unfold cat?
      rw [if_pos (by rw [Lib.decDigits_length, Lib.decDigits_length]; omega), Option.bind_some, Lib.decDigits_one (show n % 10 < 10 by omega)]
      conv => rhs; rw [Lib.decDigits, dif_neg h]
theorem digits_eq (n : Nat) (h : n ≤ 9223372036854775807) : clerestoryref4_Digits (n : Int) = some (Lib.decDigits n) := by
  unfold clerestoryref4_Digits
  exact lim_add (n + 1) fun k => digits_loop n n (Nat.le_refl _) (by omega) h k
theorem text_eq (v : TJVal) (hv : v.S.length ≤ reachBytes) : ∃ r, value_Text v = some r ∧ clerestoryref4_Shown v = some r ∧ r.length ≤ reachBytes + 100 := by
  unfold value_Text clerestoryref4_Shown
  rw [right_eq]
  have h := taken_bounds v
  have hs := taken_str v
  have hr : reachBytes = 140737488351232 := by decide
  generalize clerestoryref4_Taken v = u at h hs
  obtain ⟨k, n, s⟩ := u
  simp only at h hs ⊢
  obtain ⟨h1, h2, c0, c1, c2, c3⟩ := h
  have hcat : (cat? [91, 99, 97, 108, 108, 32] s).bind (fun r_1 => (cat? r_1 [93]).bind fun r_2 => some r_2) = some ([91, 99, 97, 108, 108, 32] ++ s ++ [93]) := by
    unfold cat?
    rw [if_pos (by simp; omega), Option.bind_some, if_pos (by simp; omega), Option.bind_some]
  rcases (show k = 0 ∨ k = 1 ∨ k = 2 ∨ k = 3 ∨ k = 4 ∨ k = 5 by omega) with rfl | rfl | rfl | rfl | rfl | rfl
  · refine ⟨_, rfl, rfl, ?_⟩; simp only [List.length_cons, List.length_nil]; omega
  · rcases (c1 rfl).1 with rfl | rfl
    · refine ⟨[102, 97, 108, 115, 101], rfl, rfl, ?_⟩; simp only [List.length_cons, List.length_nil]; omega
    · refine ⟨[116, 114, 117, 101], rfl, rfl, ?_⟩; simp only [List.length_cons, List.length_nil]; omega
  · have hn := (c2 rfl).1
    have hil := Lib.itoa_length_le n (by omega) (by omega)
    refine ⟨Lib.itoa n, ?_, ?_, by omega⟩
    · simp only [decide_eq_true_eq]
      rw [if_neg (by decide), if_pos trivial]
      unfold strconv_Itoa itoa?
      rw [if_pos (by omega), Option.bind_some]
    · simp only [decide_eq_true_eq]
      rw [if_neg (by decide), if_pos trivial]
      by_cases hneg : n < 0
      · rw [if_pos hneg, wi_id (by omega) (by omega)]
        obtain ⟨m, rfl⟩ : ∃ m : Nat, n = -(m : Int) := ⟨n.natAbs, by omega⟩
        have l1 := Lib.nDigits_le20 m (by omega)
        rw [show (0 : Int) - -(m : Int) = (m : Int) by omega, digits_eq m (by omega), Option.bind_some]
        unfold cat?
        rw [if_pos (by rw [Lib.decDigits_length]; simp; omega), Option.bind_some]
        unfold Lib.itoa
        rw [if_pos hneg]
        simp
      · rw [if_neg hneg]
        obtain ⟨m, rfl⟩ : ∃ m : Nat, n = (m : Int) := ⟨n.toNat, by omega⟩
        rw [digits_eq m (by omega), Option.bind_some]
        unfold Lib.itoa
        rw [if_neg hneg]
        simp
  · refine ⟨_, rfl, rfl, ?_⟩; omega
  · refine ⟨_, rfl, rfl, ?_⟩; simp only [List.length_cons, List.length_nil]; omega
  · refine ⟨_, hcat, hcat, ?_⟩; simp only [List.length_cons, List.length_nil, List.length_append]; omega

theorem taken_taken (v : TJVal) : clerestoryref4_Taken (clerestoryref4_Taken v) = clerestoryref4_Taken v := by
  by_cases h : clerestoryref4_ValueRight v = true
  · have e : clerestoryref4_Taken v = v := by unfold clerestoryref4_Taken; rw [if_pos h]
    rw [e, e]
  · have e : clerestoryref4_Taken v = ⟨0, 0, []⟩ := by unfold clerestoryref4_Taken; rw [if_neg h]
    rw [e]
    rfl
theorem truth_boolOf (x : Bool) : clerestoryref4_boolOf x = (value_truth x, []) := by cases x <;> rfl
theorem number_numOf (n : Int) : value_number n true = clerestoryref4_numOf n := by
  unfold value_number clerestoryref4_numOf value_within clerestoryref4_Between
  by_cases h1 : -9007199254740992 ≤ n <;> by_cases h2 : n ≤ 9007199254740992 <;> simp [h1, h2]
theorem number_far : value_number 0 false = ((⟨0, 0, []⟩ : TJVal), [114, 97, 110, 103, 101]) := rfl
theorem numOf_far {n : Int} (h : n < -9007199254740992 ∨ 9007199254740992 < n) : clerestoryref4_numOf n = ((⟨0, 0, []⟩ : TJVal), [114, 97, 110, 103, 101]) := by
  unfold clerestoryref4_numOf clerestoryref4_Between
  rw [if_neg (by simp; omega)]
theorem unary_eq (s : List UInt8) (v : TJVal) : value_Unary s v = clerestoryref4_OneSide s v := by
  unfold value_Unary clerestoryref4_OneSide
  rw [letIn_eq, truth_boolOf, right_eq, truth_eq]
  simp only [number_numOf]
theorem mx_abs {a : Int} (h : -9007199254740992 ≤ a ∧ a ≤ 9007199254740992) : wr .u64 (mx a (wi (0 - a))) = (a.natAbs : Int) := by
  rw [wi_id (by omega) (by omega), wr_u64]
  unfold mx
  split <;> omega
theorem natAbs_mul_le {a b : Int} (h : -9007199254740992 ≤ a ∧ a ≤ 9007199254740992) (h' : -9007199254740992 ≤ b ∧ b ≤ 9007199254740992) : a.natAbs * b.natAbs ≤ 9007199254740992 * 9007199254740992 :=
  Nat.mul_le_mul (by omega) (by omega)
theorem product_eq {a b : Int} (ha : -9007199254740992 ≤ a ∧ a ≤ 9007199254740992) (hb : -9007199254740992 ≤ b ∧ b ≤ 9007199254740992) :
    ∃ r, value_product a b = some r ∧ value_number r.1 r.2 = clerestoryref4_numOf (a * b) := by
  unfold value_product
  rw [mx_abs ha, mx_abs hb]
  unfold math_bits_Mul64 mul64?
  rw [if_pos (by omega), Option.bind_some]
  have hle := natAbs_mul_le ha hb
  have habs : ((a.natAbs : Int) * (b.natAbs : Int)) = ((a.natAbs * b.natAbs : Nat) : Int) := by rw [Int.natCast_mul]
  have hp : (a * b).natAbs = a.natAbs * b.natAbs := Int.natAbs_mul a b
  simp only [habs]
  generalize a.natAbs * b.natAbs = m at hle hp habs
  have hd : ((m : Int) / 18446744073709551616 = ((m / 18446744073709551616 : Nat) : Int)) := by omega
  have hm : ((m : Int) % 18446744073709551616 = ((m % 18446744073709551616 : Nat) : Int)) := by omega
  rw [hd, hm]
  by_cases hf : m ≤ 9007199254740992
  · have e1 : m / 18446744073709551616 = 0 := by omega
    have e2 : m % 18446744073709551616 = m := by omega
    rw [e1, e2, if_neg (by simp; omega)]
    have hw : wr .i64 (m : Int) = (m : Int) := by rw [wr_i64, wi_id (by omega) (by omega)]
    rw [hw]
    by_cases hs : a < 0 <;> by_cases hs' : b < 0
    · refine ⟨_, if_neg (by simp [hs, hs']), ?_⟩
      have : a * b = (m : Int) := by have := Int.mul_nonneg_of_nonpos_of_nonpos (Int.le_of_lt hs) (Int.le_of_lt hs'); omega
      rw [number_numOf, this]
    · refine ⟨_, if_pos (by simp [hs, hs']), ?_⟩
      have : a * b = -(m : Int) := by have := Int.mul_nonpos_of_nonpos_of_nonneg (Int.le_of_lt hs) (show 0 ≤ b by omega); omega
      rw [number_numOf, this, wi_id (by omega) (by omega), show (0 : Int) - (m : Int) = -(m : Int) by omega]
    · refine ⟨_, if_pos (by simp [hs, hs']), ?_⟩
      have : a * b = -(m : Int) := by have := Int.mul_nonpos_of_nonneg_of_nonpos (show 0 ≤ a by omega) (Int.le_of_lt hs'); omega
      rw [number_numOf, this, wi_id (by omega) (by omega), show (0 : Int) - (m : Int) = -(m : Int) by omega]
    · refine ⟨_, if_neg (by simp [hs, hs']), ?_⟩
      have : a * b = (m : Int) := by have := Int.mul_nonneg (show 0 ≤ a by omega) (show 0 ≤ b by omega); omega
      rw [number_numOf, this]
  · refine ⟨_, if_pos ?_, ?_⟩
    · simp
      by_cases e1 : m / 18446744073709551616 = 0
      · exact .inr (by omega)
      · exact .inl (by omega)
    · rw [number_far, numOf_far (by omega)]
theorem times_loop (P : Int) : ∀ (d : Nat) (b out grow : Int), 0 ≤ b → b ≤ d → b ≤ 9007199254740992 → out + grow * b = P → -1152921504606846976 ≤ out ∧ out ≤ 1152921504606846976 → -1152921504606846976 ≤ grow ∧ grow ≤ 1152921504606846976 → (0 ≤ out ∧ 0 ≤ grow) ∨ (out ≤ 0 ∧ grow ≤ 0) →
    ∃ r, (r = P ∨ (r = 1152921504606846976 ∧ (P < -9007199254740992 ∨ 9007199254740992 < P))) ∧ ∀ k, clerestoryref4_timesOf_l0 (fun (out1 : Int) => some out1) (k + d + 1) b out grow = some r
  | d, b, out, grow, h0, hd, hb, hP, ho, hg, hs => by
    by_cases hz : b = 0
    · subst hz
      refine ⟨out, .inl (by rw [Int.mul_zero] at hP; omega), fun k => ?_⟩
      rw [clerestoryref4_timesOf_l0, if_neg (by simp)]
    · obtain ⟨e, rfl⟩ : ∃ e, d = e + 1 := ⟨d - 1, by omega⟩
      have hq : b.tdiv 2 = b / 2 := Int.tdiv_eq_ediv_of_nonneg (by omega)
      have hr : b.tmod 2 = b % 2 := Int.tmod_eq_emod_of_nonneg (by omega)
      have hwq : wi (b / 2) = b / 2 := wi_id (by omega) (by omega)
      -- the rest of a round
      have rest : ∀ out2 : Int, out2 + (grow + grow) * (b / 2) = P → -1152921504606846976 ≤ out2 ∧ out2 ≤ 1152921504606846976 → (0 ≤ out2 ∧ 0 ≤ grow) ∨ (out2 ≤ 0 ∧ grow ≤ 0) →
          ∃ r, (r = P ∨ (r = 1152921504606846976 ∧ (P < -9007199254740992 ∨ 9007199254740992 < P))) ∧ ∀ k, clerestoryref4_timesOf_j4 b grow (clerestoryref4_timesOf_l0 (fun (out1 : Int) => some out1) (k + e + 1)) (fun (out1 : Int) => some out1) out2 = some r := by
        intro out2 hP2 ho2 hs2
        by_cases hh : 0 < b / 2
        · by_cases hb2 : -1152921504606846976 ≤ grow + grow ∧ grow + grow ≤ 1152921504606846976
          · obtain ⟨r, h1, h2⟩ := times_loop P e (b / 2) out2 (grow + grow) (by omega) (by omega) (by omega) hP2 ho2 hb2 (by omega)
            refine ⟨r, h1, fun k => ?_⟩
            unfold clerestoryref4_timesOf_j4
            rw [hq, hwq, if_pos (by simpa using hh), letIn_eq, wi_id (by omega) (by omega)]
            unfold clerestoryref4_Between
            rw [if_neg (by simp; omega)]
            exact h2 k
          · refine ⟨1152921504606846976, .inr ⟨rfl, ?_⟩, fun k => ?_⟩
            · rcases hs2 with hs2 | hs2
              · have : (grow + grow) * 1 ≤ (grow + grow) * (b / 2) := Int.mul_le_mul_of_nonneg_left (by omega) (by omega)
                omega
              · have : (grow + grow) * (b / 2) ≤ (grow + grow) * 1 := Int.mul_le_mul_of_nonpos_left (by omega) (by omega)
                omega
            · unfold clerestoryref4_timesOf_j4
              rw [hq, hwq, if_pos (by simpa using hh), letIn_eq, wi_id (by omega) (by omega)]
              unfold clerestoryref4_Between
              rw [if_pos (by simp; omega)]
        · have hb0 : b / 2 = 0 := by omega
          rw [hb0, Int.mul_zero] at hP2
          refine ⟨out2, .inl (by omega), fun k => ?_⟩
          unfold clerestoryref4_timesOf_j4
          rw [hq, hwq, hb0, if_neg (by simp), clerestoryref4_timesOf_l0, if_neg (by simp)]
      have hmul : grow * b = (grow + grow) * (b / 2) + grow * (b % 2) := by
        have e1 : b = 2 * (b / 2) + b % 2 := by omega
        have e2 : grow * b = grow * (2 * (b / 2) + b % 2) := by rw [← e1]
        rw [e2, Int.mul_add, ← Int.mul_assoc, Int.mul_comm grow 2, Int.two_mul]
      by_cases hodd : b % 2 = 1
      · rw [hodd, Int.mul_one] at hmul
        by_cases hout : -1152921504606846976 ≤ out + grow ∧ out + grow ≤ 1152921504606846976
        · obtain ⟨r, h1, h2⟩ := rest (out + grow) (by omega) hout (by omega)
          refine ⟨r, h1, fun k => ?_⟩
          rw [clerestoryref4_timesOf_l0, if_pos (by simp; omega), hr, if_pos (by simpa using hodd), letIn_eq, wi_id (by omega) (by omega)]
          unfold clerestoryref4_Between
          rw [if_neg (by simp; omega), show k + (e + 1) = k + e + 1 by omega]
          exact h2 k
        · refine ⟨1152921504606846976, .inr ⟨rfl, ?_⟩, fun k => ?_⟩
          · rcases hs with hs | hs
            · have : 0 ≤ (grow + grow) * (b / 2) := Int.mul_nonneg (by omega) (by omega)
              omega
            · have : (grow + grow) * (b / 2) ≤ 0 := Int.mul_nonpos_of_nonpos_of_nonneg (by omega) (by omega)
              omega
          · rw [clerestoryref4_timesOf_l0, if_pos (by simp; omega), hr, if_pos (by simpa using hodd), letIn_eq, wi_id (by omega) (by omega)]
            unfold clerestoryref4_Between
            rw [if_pos (by simp; omega)]
      · have heven : b % 2 = 0 := by omega
        rw [heven, Int.mul_zero] at hmul
        obtain ⟨r, h1, h2⟩ := rest out (by omega) ho hs
        refine ⟨r, h1, fun k => ?_⟩
        rw [clerestoryref4_timesOf_l0, if_pos (by simp; omega), hr, if_neg (by simp; omega), show k + (e + 1) = k + e + 1 by omega]
        exact h2 k
theorem times_eq {a b : Int} (ha : -9007199254740992 ≤ a ∧ a ≤ 9007199254740992) (hb : -9007199254740992 ≤ b ∧ b ≤ 9007199254740992) :
    ∃ r, clerestoryref4_timesOf a b = some r ∧ clerestoryref4_numOf r = clerestoryref4_numOf (a * b) := by
  have go : ∀ a b : Int, -9007199254740992 ≤ a ∧ a ≤ 9007199254740992 → 0 ≤ b ∧ b ≤ 9007199254740992 → ∃ r, clerestoryref4_timesOf_j1 a b = some r ∧ clerestoryref4_numOf r = clerestoryref4_numOf (a * b) := by
    intro a b ha hb
    obtain ⟨r, h1, h2⟩ := times_loop (a * b) b.toNat b 0 a (by omega) (by omega) (by omega) (by omega) (by omega) (by omega) (by omega)
    refine ⟨r, lim_add (b.toNat + 1) fun k => h2 k, ?_⟩
    rcases h1 with rfl | ⟨rfl, h1⟩
    · rfl
    · rw [numOf_far h1, numOf_far (by omega)]
  unfold clerestoryref4_timesOf
  by_cases h : b < 0
  · rw [if_pos (by simpa using h), wi_id (by omega) (by omega), wi_id (by omega) (by omega)]
    obtain ⟨r, h1, h2⟩ := go (0 - a) (0 - b) (by omega) (by omega)
    refine ⟨r, h1, h2.trans ?_⟩
    rw [Int.zero_sub, Int.zero_sub, Int.neg_mul_neg]
  · rw [if_neg (by simpa using h)]
    exact go a b ha (by omega)
theorem quo_rem {a b : Int} (ha : -9007199254740992 ≤ a ∧ a ≤ 9007199254740992) (hb : b ≠ 0) : wi (a - wi (wi (a.tdiv b) * b)) = a.tmod b ∧ wi (a.tdiv b) = a.tdiv b := by
  have h1 := Int.natAbs_tdiv_le_natAbs a b
  have h2 := Int.mul_tdiv_add_tmod a b
  have h3 := Int.natAbs_tmod a b
  have h4 : (a.tmod b).natAbs ≤ a.natAbs := by rw [h3]; exact Nat.mod_le _ _
  have e1 : wi (a.tdiv b) = a.tdiv b := wi_id (by omega) (by omega)
  rw [e1, Int.mul_comm (a.tdiv b) b]
  have e2 : wi (b * a.tdiv b) = b * a.tdiv b := wi_id (by omega) (by omega)
  rw [e2, wi_id (by omega) (by omega)]
  exact ⟨by omega, rfl⟩
theorem compare_less : ∀ (x y : List UInt8), Lib.compareBytes x y = if Op.bytesLess x y = true then -1 else if x = y then 0 else 1
  | [], [] => rfl
  | [], _ :: _ => rfl
  | _ :: _, [] => rfl
  | a :: x, b :: y => by
    have ih := compare_less x y
    unfold Lib.compareBytes Op.bytesLess
    by_cases h1 : a < b
    · simp [h1]
    · by_cases h2 : b < a
      · have h3 : a ≠ b := by intro h; subst h; exact absurd h2 h1
        simp [h1, h2, h3]
      · have h3 : a = b := UInt8.le_antisymm (UInt8.not_lt.1 h2) (UInt8.not_lt.1 h1)
        subst h3
        simp [h1, ih]
theorem int_cmp (x y : Int) : cmp_Compare_int x y = if x < y then -1 else if y < x then 1 else 0 := by
  unfold cmp_Compare_int cmp_isNaN_int
  simp
/-- the signs of order, by what is less and what is more -/
theorem ordered_eq (s : List UInt8) (c : Int) (less more : Bool) (h1 : c < 0 ↔ less = true) (h2 : 0 < c ↔ more = true) (hs : s = [60] ∨ s = [60, 61] ∨ s = [62] ∨ s = [62, 61]) :
    value_ordered s c = value_truth (((((decide (s = [60])) && less) || ((decide (s = [62])) && more)) || ((decide (s = [60, 61])) && (!more))) || ((decide (s = [62, 61])) && (!less))) := by
  unfold value_ordered
  rcases hs with rfl | rfl | rfl | rfl
  · simp; congr 1; rw [Bool.eq_iff_iff]; simpa using h1
  · simp; congr 1; rw [Bool.eq_iff_iff]; simp; constructor
    · intro h; cases more with | false => rfl | true => have := h2.2 rfl; omega
    · intro h; subst h; by_cases hc : 0 < c
      · exact absurd (h2.1 hc) (by decide)
      · omega
  · simp; congr 1; rw [Bool.eq_iff_iff]; simpa using h2
  · simp; congr 1; rw [Bool.eq_iff_iff]; simp; constructor
    · intro h; cases less with | false => rfl | true => have := h1.2 rfl; omega
    · intro h; subst h; by_cases hc : c < 0
      · exact absurd (h1.1 hc) (by decide)
      · omega
theorem ordered_all (s : List UInt8) (a b : TJVal) (hs : s = [60] ∨ s = [60, 61] ∨ s = [62] ∨ s = [62, 61]) (less more : Bool)
    (hl : (clerestoryref4_Taken a).Kind ≠ 3 → less = decide ((clerestoryref4_Taken a).N < (clerestoryref4_Taken b).N) ∧ more = decide ((clerestoryref4_Taken b).N < (clerestoryref4_Taken a).N))
    (hl3 : (clerestoryref4_Taken a).Kind = 3 → less = Op.bytesLess (clerestoryref4_Taken a).S (clerestoryref4_Taken b).S ∧ more = !(Op.bytesLess (clerestoryref4_Taken a).S (clerestoryref4_Taken b).S || decide ((clerestoryref4_Taken a).S = (clerestoryref4_Taken b).S))) :
    value_Binary_j3 a b s true = clerestoryref4_TwoSides_j2 a b s less more true := by
  unfold value_Binary_j3 clerestoryref4_TwoSides_j2
  rw [right_eq, right_eq, if_pos rfl, if_pos rfl]
  have ha := taken_bounds a
  have hb := taken_bounds b
  generalize clerestoryref4_Taken a = u at *
  generalize clerestoryref4_Taken b = w at *
  simp only [letIn_eq, truth_boolOf]
  by_cases k2 : u.Kind = 2 ∧ w.Kind = 2
  · obtain ⟨e1, e2⟩ := hl (by omega)
    rw [if_pos (by simp [k2]), if_neg (by simp [k2])]
    congr 2
    refine ordered_eq s _ less more ?_ ?_ hs
    · rw [int_cmp, e1]
      simp only [decide_eq_true_eq]
      split
      · simp; omega
      · split <;> simp <;> omega
    · rw [int_cmp, e2]
      simp only [decide_eq_true_eq]
      split
      · simp; omega
      · split <;> simp <;> omega
  · by_cases k3 : u.Kind = 3 ∧ w.Kind = 3
    · obtain ⟨e1, e2⟩ := hl3 k3.1
      rw [if_neg (by simp; omega), if_pos (by simp [k3]), if_neg (by simp [k3])]
      unfold strings_Compare compareS?
      rw [Option.bind_some]
      congr 2
      refine ordered_eq s _ less more ?_ ?_ hs
      · rw [compare_less, e1]
        cases Op.bytesLess u.S w.S with
        | true => simp
        | false => by_cases h : u.S = w.S <;> simp [h]
      · rw [compare_less, e2]
        cases Op.bytesLess u.S w.S with
        | true => simp
        | false => by_cases h : u.S = w.S <;> simp [h]
    · rw [if_neg (by simp; omega), if_neg (by simp; omega), if_pos (by simp; omega)]
theorem same_comm (u w : TJVal) : (decide (u.Kind = w.Kind) && (decide (u.N = w.N) && (decide (u.S = w.S) && true))) = decide (u.Kind = w.Kind ∧ u.N = w.N ∧ u.S = w.S) := by
  rw [Bool.eq_iff_iff]; simp
theorem reckon_all (s : List UInt8) (a b : TJVal) (hs : s = [43] ∨ s = [45] ∨ s = [42] ∨ s = [47] ∨ s = [37]) (hla : a.S.length ≤ reachBytes) (hlb : b.S.length ≤ reachBytes) :
    ∃ r, value_Binary_j2 a b s true = some r ∧ clerestoryref4_TwoSides_j3 s a b true = some r := by
  unfold value_Binary_j2 clerestoryref4_TwoSides_j3
  rw [right_eq, right_eq, if_pos rfl, if_pos rfl]
  have ha := taken_bounds a
  have hb := taken_bounds b
  obtain ⟨ta, a1, a2, a3⟩ := text_eq (clerestoryref4_Taken a) (Nat.le_trans (taken_str a) hla)
  obtain ⟨tb, b1, b2, b3⟩ := text_eq (clerestoryref4_Taken b) (Nat.le_trans (taken_str b) hlb)
  have hr : reachBytes = 140737488351232 := by decide
  generalize clerestoryref4_Taken a = u at *
  generalize clerestoryref4_Taken b = w at *
  simp only [letIn_eq]
  by_cases k2 : u.Kind = 2 ∧ w.Kind = 2
  · have hu := (ha.2.2.2.2.1 k2.1).1
    have hw := (hb.2.2.2.2.1 k2.2).1
    rw [if_pos (by simp [k2]), if_neg (by simp [k2]), if_neg (by simp [k2])]
    unfold value_reckoned
    rcases hs with rfl | rfl | rfl | rfl | rfl
    · exact ⟨_, rfl, by simp [number_numOf]⟩
    · exact ⟨_, rfl, by simp [number_numOf]⟩
    · obtain ⟨r, p1, p2⟩ := product_eq hu hw
      obtain ⟨q, t1, t2⟩ := times_eq hu hw
      refine ⟨clerestoryref4_numOf (u.N * w.N), ?_, ?_⟩
      · simp [p1, p2]
      · simp [t1, t2]
    · by_cases hz : w.N = 0
      · exact ⟨((⟨0, 0, []⟩ : TJVal), [122, 101, 114, 111]), by simp [hz], by simp [hz]⟩
      · refine ⟨clerestoryref4_numOf (u.N.tdiv w.N), ?_, ?_⟩
        · have := (quo_rem hu hz).2
          simp [hz, quoq hz, number_numOf]
          rw [show IntKind.i64.wrap (u.N.tdiv w.N) = wi (u.N.tdiv w.N) from rfl, this]
        · have := (quo_rem hu hz).2
          simp [hz, quoq hz]
          rw [show IntKind.i64.wrap (u.N.tdiv w.N) = wi (u.N.tdiv w.N) from rfl, this]
    · by_cases hz : w.N = 0
      · exact ⟨((⟨0, 0, []⟩ : TJVal), [122, 101, 114, 111]), by simp [hz], by simp [hz]⟩
      · refine ⟨clerestoryref4_numOf (u.N.tmod w.N), ?_, ?_⟩
        · simp [hz, remq hz, number_numOf]
        · have := (quo_rem hu hz).1
          simp [hz, quoq hz]
          rw [show IntKind.i64.wrap (u.N.tdiv w.N) = wi (u.N.tdiv w.N) from rfl, this]
  · rw [if_neg (by simp; omega)]
    by_cases k3 : s = [43] ∧ (u.Kind = 3 ∨ w.Kind = 3)
    · rw [if_pos (by simp [k3]), if_pos (by simp [k3]), a1, a2, b1, b2]
      simp only [Option.bind_some]
      unfold cat?
      rw [if_pos (by omega), Option.bind_some]
      by_cases hl : (2000 : Int) < ((ta ++ tb).length : Int)
      · exact ⟨_, if_pos (by simpa using hl), if_pos (by simpa using hl)⟩
      · exact ⟨_, if_neg (by simpa using hl), if_neg (by simpa using hl)⟩
    · have hk : ((decide (s = [43])) && ((decide (u.Kind = 3)) || (decide (w.Kind = 3)))) = false := by
        rw [Bool.eq_false_iff]
        intro h
        simp at h
        exact k3 h
      have hk2 : (!((decide (u.Kind = 2)) && (decide (w.Kind = 2)))) = true := by
        simp
        omega
      rw [hk, if_neg (by decide), if_neg (by decide), if_pos hk2]
      exact ⟨_, rfl, rfl⟩
theorem ordered_some (s : List UInt8) (a b : TJVal) (less more : Bool) : ∃ r, clerestoryref4_TwoSides_j2 a b s less more true = some r := by
  unfold clerestoryref4_TwoSides_j2
  rw [if_pos rfl, letIn_eq]
  split
  · exact ⟨_, rfl⟩
  · exact ⟨_, rfl⟩
theorem binary_eq (s : List UInt8) (a b : TJVal) (hla : a.S.length ≤ reachBytes) (hlb : b.S.length ≤ reachBytes) : ∃ r, value_Binary s a b = some r ∧ clerestoryref4_TwoSides s a b = some r := by
  -- the second, whatever is less
  have two : ∃ less more : Bool, clerestoryref4_TwoSides s a b = clerestoryref4_TwoSides_j1 s a b less more ∧
      ((clerestoryref4_Taken a).Kind ≠ 3 → less = decide ((clerestoryref4_Taken a).N < (clerestoryref4_Taken b).N) ∧ more = decide ((clerestoryref4_Taken b).N < (clerestoryref4_Taken a).N)) ∧
      ((clerestoryref4_Taken a).Kind = 3 → less = Op.bytesLess (clerestoryref4_Taken a).S (clerestoryref4_Taken b).S ∧ more = !(Op.bytesLess (clerestoryref4_Taken a).S (clerestoryref4_Taken b).S || decide ((clerestoryref4_Taken a).S = (clerestoryref4_Taken b).S))) := by
    unfold clerestoryref4_TwoSides
    by_cases k : (clerestoryref4_Taken a).Kind = 3
    · rw [if_pos (by simpa using k), letIn_eq, letIn_eq]
      exact ⟨_, _, rfl, fun h => absurd k h, fun _ => ⟨rfl, rfl⟩⟩
    · rw [if_neg (by simpa using k)]
      exact ⟨_, _, rfl, fun _ => ⟨rfl, rfl⟩, fun h => absurd h k⟩
  obtain ⟨less, more, e, hl, hl3⟩ := two
  rw [e]
  have ord : (s = [60] ∨ s = [60, 61] ∨ s = [62] ∨ s = [62, 61]) → ∃ r, value_Binary_j3 a b s true = some r ∧ clerestoryref4_TwoSides_j2 a b s less more true = some r := by
    intro hs
    obtain ⟨r, hr⟩ := ordered_some s a b less more
    exact ⟨r, (ordered_all s a b hs less more hl hl3).trans hr, hr⟩
  have reck := fun hs => reckon_all s a b hs hla hlb
  have eqs : value_Binary_j1 a b s true = some (value_truth (((decide ((clerestoryref4_Taken a).Kind = (clerestoryref4_Taken b).Kind) && (decide ((clerestoryref4_Taken a).N = (clerestoryref4_Taken b).N) && (decide ((clerestoryref4_Taken a).S = (clerestoryref4_Taken b).S) && true))) == decide (s = [61, 61])) && true), []) := by
    unfold value_Binary_j1
    rw [if_pos rfl, letIn_eq, right_eq, right_eq]
  obtain ⟨X, hX⟩ : ∃ X, (decide ((clerestoryref4_Taken a).Kind = (clerestoryref4_Taken b).Kind) && (decide ((clerestoryref4_Taken a).N = (clerestoryref4_Taken b).N) && (decide ((clerestoryref4_Taken a).S = (clerestoryref4_Taken b).S) && true))) = X := ⟨_, rfl⟩
  rw [hX] at eqs
  by_cases h1 : s = [61, 61]
  · have d1 : decide (s = [61, 61]) = true := by simpa using h1
    refine ⟨(value_truth X, []), ?_, ?_⟩
    · unfold value_Binary
      rw [d1, if_pos rfl, eqs, d1]
      simp
    · unfold clerestoryref4_TwoSides_j1
      rw [d1, if_pos rfl, letIn_eq, truth_boolOf, hX]
  by_cases h2 : s = [33, 61]
  · have d1 : decide (s = [61, 61]) = false := by simpa using h1
    have d2 : decide (s = [33, 61]) = true := by simpa using h2
    refine ⟨(value_truth (!X), []), ?_, ?_⟩
    · unfold value_Binary
      rw [d1, d2, if_neg (by decide), eqs, d1]
      simp
    · unfold clerestoryref4_TwoSides_j1
      rw [d1, d2, if_neg (by decide), if_pos rfl, letIn_eq, truth_boolOf, hX]
  have d1 : decide (s = [61, 61]) = false := by simpa using h1
  have d2 : decide (s = [33, 61]) = false := by simpa using h2
  unfold value_Binary clerestoryref4_TwoSides_j1 value_Binary_j1
  rw [d1, d2]
  simp only [Bool.false_eq_true, if_false]
  by_cases h3 : s = [43]
  · have r := reck (.inl h3)
    subst h3
    simpa [clerestoryref4_TwoSides_j2] using r
  by_cases h4 : s = [45]
  · have r := reck (.inr (.inl h4))
    subst h4
    simpa [clerestoryref4_TwoSides_j2] using r
  by_cases h5 : s = [42]
  · have r := reck (.inr (.inr (.inl h5)))
    subst h5
    simpa [clerestoryref4_TwoSides_j2] using r
  by_cases h6 : s = [47]
  · have r := reck (.inr (.inr (.inr (.inl h6))))
    subst h6
    simpa [clerestoryref4_TwoSides_j2] using r
  by_cases h7 : s = [37]
  · have r := reck (.inr (.inr (.inr (.inr h7))))
    subst h7
    simpa [clerestoryref4_TwoSides_j2] using r
  by_cases h8 : s = [60]
  · have r := ord (.inl h8)
    subst h8
    simpa [value_Binary_j2] using r
  by_cases h9 : s = [60, 61]
  · have r := ord (.inr (.inl h9))
    subst h9
    simpa [value_Binary_j2] using r
  by_cases h10 : s = [62]
  · have r := ord (.inr (.inr (.inl h10)))
    subst h10
    simpa [value_Binary_j2] using r
  by_cases h11 : s = [62, 61]
  · have r := ord (.inr (.inr (.inr h11)))
    subst h11
    simpa [value_Binary_j2] using r
  refine ⟨((⟨0, 0, []⟩ : TJVal), [115, 105, 103, 110]), ?_, ?_⟩
  · simp [value_Binary_j2, value_Binary_j3, h3, h4, h5, h6, h7, h8, h9, h10, h11]
  · simp [clerestoryref4_TwoSides_j2, clerestoryref4_TwoSides_j3, h3, h4, h5, h6, h7, h8, h9, h10, h11]
theorem pureValueSigns : PureValueSigns := by
  intro s a b hs ha hb
  unfold clerestorylaw4_ValueSigns
  obtain ⟨r, h1, h2⟩ := binary_eq s a b ha.2.2 hb.2.2
  rw [h1, Option.bind_some, h2, Option.bind_some, letIn_eq, unary_eq]
  simp
end Go.Proofs.YtdmmjgjmfpalhaaDoorBv
