/- strings.ToLower of a text of ASCII: letter by letter. No program is in sight. -/
import Derived.Test.YtagfmlkihindaaaDoorShUrlCodes
import Derived.Test.YtagfmlkihindaaaDoorBv23
namespace Go.Proofs.YtagfmlkihindaaaDoorBv
open Go
set_option linter.unusedSimpArgs false
set_option linter.unusedVariables false
def isUp (c : UInt8) : Bool := decide (65 ≤ c.toNat) && decide (c.toNat ≤ 90)
def loB (c : UInt8) : UInt8 := if isUp c then UInt8.ofNat (c.toNat + 32) else c
theorem isUp_eq (c : UInt8) : ((decide (65 ≤ (c.toNat : Int))) && (decide ((c.toNat : Int) ≤ 90))) = isUp c := by
  unfold isUp
  congr 1
  · rw [Bool.eq_iff_iff]; simp; omega
  · rw [Bool.eq_iff_iff]; simp; omega
theorem loB_up {c : UInt8} (h : isUp c = true) : UInt8.ofNat (wr .u8 ((c.toNat : Int) + 32)).toNat = loB c := by
  have h' := h
  unfold isUp at h'
  simp only [Bool.and_eq_true, decide_eq_true_eq] at h'
  unfold loB
  rw [if_pos h, wr_u8]
  congr 1
  omega
theorem map_sameL {l : List UInt8} (h : ∀ c, c ∈ l → isUp c = false) : l.map loB = l := by
  refine (List.map_congr_left (g := id) fun c hc => ?_).trans (List.map_id _)
  unfold loB
  rw [h c hc]
  rfl
theorem lo_l0 (s : List UInt8) (hl : s.length ≤ 140737488355328) (ha : ∀ c, c ∈ s → c.toNat < 128) (K : Bool → Bool → Option (List UInt8)) : ∀ (d i : Nat) (b : Bool), i + d = s.length → ∀ m, strings_ToLower_l0 s K (m + d + 1) b (i : Int) = K true (b || (s.drop i).any isUp)
  | 0, i, b, hi, m => by
    rw [strings_ToLower_l0, if_neg (by simp only [decide_eq_true_eq]; omega), List.drop_eq_nil_of_le (by omega)]
    simp
  | d + 1, i, b, hi, m => by
    have h : i < s.length := by omega
    have := ha s[i] (List.getElem_mem h)
    rw [strings_ToLower_l0, if_pos (by simp only [decide_eq_true_eq]; omega), at_some h, Option.bind_some, if_neg (by simp only [decide_eq_true_eq]; omega), isUp_eq, wi_id (by omega) (by omega), show (i : Int) + 1 = ((i + 1 : Nat) : Int) by omega,
      show m + (d + 1) = m + d + 1 by omega, lo_l0 s hl ha K d (i + 1) _ (by omega) m, List.drop_eq_getElem_cons h, List.any_cons, Bool.or_assoc]
theorem lo_l1 (s : List UInt8) (hl : s.length ≤ 1000000000) (K : List UInt8 → Int → Option (List UInt8)) : ∀ (d i p : Nat), i + d = s.length → p ≤ i → (∀ c, c ∈ (s.take i).drop p → isUp c = false) →
    ∃ p', p' ≤ s.length ∧ (∀ c, c ∈ s.drop p' → isUp c = false) ∧ ∀ m, strings_ToLower_l1 s K (m + d + 1) ((s.take p).map loB) (p : Int) (i : Int) = K ((s.take p').map loB) (p' : Int)
  | 0, i, p, hi, hp, hn => by
    obtain rfl : i = s.length := by omega
    refine ⟨p, hp, by rw [List.take_length] at hn; exact hn, fun m => ?_⟩
    rw [strings_ToLower_l1, if_neg (by simp)]
  | d + 1, i, p, hi, hp, hn => by
    have h : i < s.length := by omega
    have tk : s.take (i + 1) = s.take i ++ [s[i]] := by rw [List.take_add_one, List.getElem?_eq_getElem h]; rfl
    by_cases hc : isUp s[i] = true
    · obtain ⟨p', h1, h2, h3⟩ := lo_l1 s hl K d (i + 1) (i + 1) (by omega) (Nat.le_refl _) (fun c hc => by rw [List.drop_eq_nil_of_le (by rw [List.length_take]; omega)] at hc; cases hc)
      refine ⟨p', h1, h2, fun m => ?_⟩
      have hup := loB_up hc
      have hrange : 0 ≤ wr .u8 ((s[i].toNat : Int) + 32) ∧ wr .u8 ((s[i].toNat : Int) + 32) < 256 := by rw [wr_u8]; omega
      have step : ∀ b : List UInt8, b = (s.take i).map loB → strings_ToLower_j12 s[i] (i : Int) s (strings_ToLower_l1 s K (m + d + 1)) K b = K ((s.take p').map loB) (p' : Int) := by
        rintro b rfl
        unfold strings_ToLower_j12 strings_ToLower_j11 strings_Builder_WriteByte bWriteByte?
        rw [if_pos ⟨by rw [List.length_map, List.length_take]; omega, hrange.1, hrange.2⟩, Option.bind_some, hup, wi_id (by omega) (by omega), show (i : Int) + 1 = ((i + 1 : Nat) : Int) by omega]
        have := h3 m
        rw [tk, List.map_append] at this
        exact this
      rw [strings_ToLower_l1, if_pos (by simp only [decide_eq_true_eq]; omega), at_some h, Option.bind_some, isUp_eq, if_pos hc, show m + (d + 1) = m + d + 1 by omega]
      by_cases hpi : p < i
      · rw [if_pos (by simp only [decide_eq_true_eq]; omega), sub_nat (by omega) (by omega), Option.bind_some]
        show (bWriteString? ((s.take p).map loB) ((s.take i).drop p)).bind _ = _
        unfold bWriteString?
        rw [if_pos (by rw [List.length_map, List.length_take, List.length_drop, List.length_take]; omega), Option.bind_some]
        refine step _ ?_
        conv => lhs; arg 2; rw [← map_sameL hn]
        rw [← List.map_append]
        congr 1
        have e : s.take p = (s.take i).take p := by rw [List.take_take, Nat.min_eq_left hp]
        rw [e, List.take_append_drop]
      · obtain rfl : p = i := by omega
        rw [if_neg (by simp)]
        exact step _ rfl
    · obtain ⟨p', h1, h2, h3⟩ := lo_l1 s hl K d (i + 1) p (by omega) (by omega) (fun c hc' => by
        rw [tk, List.drop_append_of_le_length (by rw [List.length_take]; omega)] at hc'
        rcases List.mem_append.1 hc' with h | h
        · exact hn c h
        · rw [List.mem_singleton] at h; subst h; simpa using hc)
      refine ⟨p', h1, h2, fun m => ?_⟩
      rw [strings_ToLower_l1, if_pos (by simp only [decide_eq_true_eq]; omega), at_some h, Option.bind_some, isUp_eq, if_neg hc, show m + (d + 1) = m + d + 1 by omega]
      unfold strings_ToLower_j11
      rw [wi_id (by omega) (by omega), show (i : Int) + 1 = ((i + 1 : Nat) : Int) by omega]
      exact h3 m
theorem toLower_eq (s : List UInt8) (hl : s.length ≤ 1000000000) (ha : ∀ c, c ∈ s → c.toNat < 128) : strings_ToLower s = some (s.map loB) := by
  unfold strings_ToLower
  refine lim_add (s.length + 1) fun k => ?_
  rw [← Nat.add_assoc]
  have h0 := lo_l0 s (by omega) ha
  rw [show (0 : Int) = ((0 : Nat) : Int) from rfl, h0 _ s.length 0 false (by omega) k, if_pos rfl, List.drop_zero, Bool.false_or]
  by_cases hlow : s.any isUp = true
  · rw [hlow, if_neg (by simp)]
    show (bGrow? (s.length : Int)).bind _ = _
    unfold bGrow?
    rw [if_pos (by omega), Option.bind_some]
    refine lim_add (s.length + 1) fun m => ?_
    obtain ⟨p', h1, h2, h3⟩ := lo_l1 s hl (fun (b_1 : (List UInt8)) (pos_1 : Int) => 
              if decide (pos_1 < (s.length : Int)) then
                (sub? s pos_1 (s.length : Int)).bind fun r_4 =>
                (strings_Builder_WriteString b_1 r_4).bind fun r_5 =>
                strings_ToLower_j13 r_5
              else
                strings_ToLower_j13 b_1) s.length 0 0 (by omega) (Nat.le_refl _) (fun c hc => by simp at hc)
    have h4 := h3 m
    simp only [List.take_zero, List.map_nil] at h4
    rw [← Nat.add_assoc]
    refine h4.trans ?_
    unfold strings_ToLower_j13
    by_cases hp : p' < s.length
    · rw [if_pos (by simp only [decide_eq_true_eq]; omega), sub_drop h1, Option.bind_some]
      show (bWriteString? ((s.take p').map loB) (s.drop p')).bind _ = _
      unfold bWriteString?
      rw [if_pos (by rw [List.length_map, List.length_take, List.length_drop]; omega), Option.bind_some]
      congr 1
      conv => lhs; arg 2; rw [← map_sameL h2]
      rw [← List.map_append, List.take_append_drop]
    · rw [if_neg (by simp only [decide_eq_true_eq]; omega)]
      rw [List.take_of_length_le (by omega)]
  · have hf : s.any isUp = false := by simpa using hlow
    rw [hf, if_pos (by simp), map_sameL fun c hc => by simpa using List.any_eq_false.1 hf c hc]
end Go.Proofs.YtagfmlkihindaaaDoorBv
