/- strings.ToUpper of a text of ASCII: letter by letter. No program is in sight. -/
import Derived.Test.YtagfmlkihindaaaDoorShCountMarks
import Derived.Test.YtagfmlkihindaaaDoorBv23
namespace Go.Proofs.YtagfmlkihindaaaDoorBv
open Go
set_option linter.unusedSimpArgs false
set_option linter.unusedVariables false
def isLow (c : UInt8) : Bool := decide (97 ≤ c.toNat) && decide (c.toNat ≤ 122)
def upB (c : UInt8) : UInt8 := if isLow c then UInt8.ofNat (c.toNat - 32) else c
theorem isLow_eq (c : UInt8) : ((decide (97 ≤ (c.toNat : Int))) && (decide ((c.toNat : Int) ≤ 122))) = isLow c := by
  unfold isLow
  congr 1
  · rw [Bool.eq_iff_iff]; simp; omega
  · rw [Bool.eq_iff_iff]; simp; omega
theorem upB_low {c : UInt8} (h : isLow c = true) : UInt8.ofNat (wr .u8 ((c.toNat : Int) - 32)).toNat = upB c := by
  have h' := h
  unfold isLow at h'
  simp only [Bool.and_eq_true, decide_eq_true_eq] at h'
  unfold upB
  rw [if_pos h, wr_u8]
  congr 1
  omega
theorem map_same {l : List UInt8} (h : ∀ c, c ∈ l → isLow c = false) : l.map upB = l := by
  refine (List.map_congr_left (g := id) fun c hc => ?_).trans (List.map_id _)
  unfold upB
  rw [h c hc]
  rfl
theorem up_l0 (s : List UInt8) (hl : s.length ≤ 140737488355328) (ha : ∀ c, c ∈ s → c.toNat < 128) (K : Bool → Bool → Option (List UInt8)) : ∀ (d i : Nat) (b : Bool), i + d = s.length → ∀ m, strings_ToUpper_l0 s K (m + d + 1) b (i : Int) = K true (b || (s.drop i).any isLow)
  | 0, i, b, hi, m => by
    rw [strings_ToUpper_l0, if_neg (by simp only [decide_eq_true_eq]; omega), List.drop_eq_nil_of_le (by omega)]
    simp
  | d + 1, i, b, hi, m => by
    have h : i < s.length := by omega
    have := ha s[i] (List.getElem_mem h)
    rw [strings_ToUpper_l0, if_pos (by simp only [decide_eq_true_eq]; omega), at_some h, Option.bind_some, if_neg (by simp only [decide_eq_true_eq]; omega), isLow_eq, wi_id (by omega) (by omega), show (i : Int) + 1 = ((i + 1 : Nat) : Int) by omega,
      show m + (d + 1) = m + d + 1 by omega, up_l0 s hl ha K d (i + 1) _ (by omega) m, List.drop_eq_getElem_cons h, List.any_cons, Bool.or_assoc]
theorem up_l1 (s : List UInt8) (hl : s.length ≤ 1000000000) (K : List UInt8 → Int → Option (List UInt8)) : ∀ (d i p : Nat), i + d = s.length → p ≤ i → (∀ c, c ∈ (s.take i).drop p → isLow c = false) →
    ∃ p', p' ≤ s.length ∧ (∀ c, c ∈ s.drop p' → isLow c = false) ∧ ∀ m, strings_ToUpper_l1 s K (m + d + 1) ((s.take p).map upB) (p : Int) (i : Int) = K ((s.take p').map upB) (p' : Int)
  | 0, i, p, hi, hp, hn => by
    obtain rfl : i = s.length := by omega
    refine ⟨p, hp, by rw [List.take_length] at hn; exact hn, fun m => ?_⟩
    rw [strings_ToUpper_l1, if_neg (by simp)]
  | d + 1, i, p, hi, hp, hn => by
    have h : i < s.length := by omega
    have tk : s.take (i + 1) = s.take i ++ [s[i]] := by rw [List.take_add_one, List.getElem?_eq_getElem h]; rfl
    by_cases hc : isLow s[i] = true
    · obtain ⟨p', h1, h2, h3⟩ := up_l1 s hl K d (i + 1) (i + 1) (by omega) (Nat.le_refl _) (fun c hc => by rw [List.drop_eq_nil_of_le (by rw [List.length_take]; omega)] at hc; cases hc)
      refine ⟨p', h1, h2, fun m => ?_⟩
      have hup := upB_low hc
      have hrange : 0 ≤ wr .u8 ((s[i].toNat : Int) - 32) ∧ wr .u8 ((s[i].toNat : Int) - 32) < 256 := by rw [wr_u8]; omega
      have step : ∀ b : List UInt8, b = (s.take i).map upB → strings_ToUpper_j12 s[i] (i : Int) s (strings_ToUpper_l1 s K (m + d + 1)) K b = K ((s.take p').map upB) (p' : Int) := by
        rintro b rfl
        unfold strings_ToUpper_j12 strings_ToUpper_j11 strings_Builder_WriteByte bWriteByte?
        rw [if_pos ⟨by rw [List.length_map, List.length_take]; omega, hrange.1, hrange.2⟩, Option.bind_some, hup, wi_id (by omega) (by omega), show (i : Int) + 1 = ((i + 1 : Nat) : Int) by omega]
        have := h3 m
        rw [tk, List.map_append] at this
        exact this
      rw [strings_ToUpper_l1, if_pos (by simp only [decide_eq_true_eq]; omega), at_some h, Option.bind_some, isLow_eq, if_pos hc, show m + (d + 1) = m + d + 1 by omega]
      by_cases hpi : p < i
      · rw [if_pos (by simp only [decide_eq_true_eq]; omega), sub_nat (by omega) (by omega), Option.bind_some]
        show (bWriteString? ((s.take p).map upB) ((s.take i).drop p)).bind _ = _
        unfold bWriteString?
        rw [if_pos (by rw [List.length_map, List.length_take, List.length_drop, List.length_take]; omega), Option.bind_some]
        refine step _ ?_
        conv => lhs; arg 2; rw [← map_same hn]
        rw [← List.map_append]
        congr 1
        have e : s.take p = (s.take i).take p := by rw [List.take_take, Nat.min_eq_left hp]
        rw [e, List.take_append_drop]
      · obtain rfl : p = i := by omega
        rw [if_neg (by simp)]
        exact step _ rfl
    · obtain ⟨p', h1, h2, h3⟩ := up_l1 s hl K d (i + 1) p (by omega) (by omega) (fun c hc' => by
        rw [tk, List.drop_append_of_le_length (by rw [List.length_take]; omega)] at hc'
        rcases List.mem_append.1 hc' with h | h
        · exact hn c h
        · rw [List.mem_singleton] at h; subst h; simpa using hc)
      refine ⟨p', h1, h2, fun m => ?_⟩
      rw [strings_ToUpper_l1, if_pos (by simp only [decide_eq_true_eq]; omega), at_some h, Option.bind_some, isLow_eq, if_neg hc, show m + (d + 1) = m + d + 1 by omega]
      unfold strings_ToUpper_j11
      rw [wi_id (by omega) (by omega), show (i : Int) + 1 = ((i + 1 : Nat) : Int) by omega]
      exact h3 m
theorem toUpper_eq (s : List UInt8) (hl : s.length ≤ 1000000000) (ha : ∀ c, c ∈ s → c.toNat < 128) : strings_ToUpper s = some (s.map upB) := by
  unfold strings_ToUpper
  refine lim_add (s.length + 1) fun k => ?_
  rw [← Nat.add_assoc]
  have h0 := up_l0 s (by omega) ha
  rw [show (0 : Int) = ((0 : Nat) : Int) from rfl, h0 _ s.length 0 false (by omega) k, if_pos rfl, List.drop_zero, Bool.false_or]
  by_cases hlow : s.any isLow = true
  · rw [hlow, if_neg (by simp)]
    show (bGrow? (s.length : Int)).bind _ = _
    unfold bGrow?
    rw [if_pos (by omega), Option.bind_some]
    refine lim_add (s.length + 1) fun m => ?_
    obtain ⟨p', h1, h2, h3⟩ := up_l1 s hl (fun (b_1 : (List UInt8)) (pos_1 : Int) => 
              if decide (pos_1 < (s.length : Int)) then
                (sub? s pos_1 (s.length : Int)).bind fun r_4 =>
                (strings_Builder_WriteString b_1 r_4).bind fun r_5 =>
                strings_ToUpper_j13 r_5
              else
                strings_ToUpper_j13 b_1) s.length 0 0 (by omega) (Nat.le_refl _) (fun c hc => by simp at hc)
    have h4 := h3 m
    simp only [List.take_zero, List.map_nil] at h4
    rw [← Nat.add_assoc]
    refine h4.trans ?_
    unfold strings_ToUpper_j13
    by_cases hp : p' < s.length
    · rw [if_pos (by simp only [decide_eq_true_eq]; omega), sub_drop h1, Option.bind_some]
      show (bWriteString? ((s.take p').map upB) (s.drop p')).bind _ = _
      unfold bWriteString?
      rw [if_pos (by rw [List.length_map, List.length_take, List.length_drop]; omega), Option.bind_some]
      congr 1
      conv => lhs; arg 2; rw [← map_same h2]
      rw [← List.map_append, List.take_append_drop]
    · rw [if_neg (by simp only [decide_eq_true_eq]; omega)]
      rw [List.take_of_length_le (by omega)]
  · have hf : s.any isLow = false := by simpa using hlow
    rw [hf, if_pos (by simp), map_same fun c hc => by simpa using List.any_eq_false.1 hf c hc]
/-! ### the document's -/
theorem rup_loop (s : List UInt8) (hl : s.length ≤ 1000000000) : ∀ (d i : Nat), i + d = s.length → ∀ m, clerestoryref2_upper_l0 (fun b_1 => some (byts b_1)) (m + d + 1) (ints ((s.take i).map upB) ++ ints (s.drop i)) (i : Int) = some (s.map upB)
  | 0, i, hi, m => by
    obtain rfl : i = s.length := by omega
    have hlen : (ints ((s.take s.length).map upB) ++ ints (s.drop s.length)).length = s.length := by rw [List.length_append, ints_length, ints_length, List.length_map, List.length_take, List.length_drop]; omega
    rw [clerestoryref2_upper_l0, hlen, if_neg (by simp), List.take_length, List.drop_length]
    congr 1
    unfold byts ints
    simp [Function.comp_def]
  | d + 1, i, hi, m => by
    have h : i < s.length := by omega
    have hlen : (ints ((s.take i).map upB) ++ ints (s.drop i)).length = s.length := by rw [List.length_append, ints_length, ints_length, List.length_map, List.length_take, List.length_drop]; omega
    have hl1 : (ints ((s.take i).map upB)).length = i := by rw [ints_length, List.length_map, List.length_take]; omega
    have hd : ints (s.drop i) = (s[i].toNat : Int) :: ints (s.drop (i + 1)) := by rw [List.drop_eq_getElem_cons h]; rfl
    have a1 : at? (ints ((s.take i).map upB) ++ ints (s.drop i)) (i : Int) = some (s[i].toNat : Int) := by
      rw [hd, at_nat, List.getElem?_append_right (by omega), hl1]; simp
    have tk : s.take (i + 1) = s.take i ++ [s[i]] := by rw [List.take_add_one, List.getElem?_eq_getElem h]; rfl
    have fin : ∀ v : Int, v = ((upB s[i]).toNat : Int) → (ints ((s.take i).map upB) ++ ints (s.drop i)).set i v = ints ((s.take (i + 1)).map upB) ++ ints (s.drop (i + 1)) := by
      rintro v rfl
      rw [hd, List.set_append_right _ _ (by omega), hl1, Nat.sub_self, List.set_cons_zero, tk, List.map_append]
      unfold ints
      simp
    have ih := rup_loop s hl d (i + 1) (by omega) m
    rw [clerestoryref2_upper_l0, hlen, if_pos (by simp only [decide_eq_true_eq]; omega), a1, Option.bind_some, show m + (d + 1) = m + d + 1 by omega]
    have low : isLow s[i] = ((decide (97 ≤ (s[i].toNat : Int))) && (decide ((s[i].toNat : Int) ≤ 122))) := (isLow_eq _).symm
    have go : (if isLow s[i] then clerestoryref2_upper_j12 (i : Int) (clerestoryref2_upper_l0 (fun b_1 => some (byts b_1)) (m + d + 1)) (fun b_1 => some (byts b_1)) (ints ((s.take i).map upB) ++ ints (s.drop i)) true
        else clerestoryref2_upper_j12 (i : Int) (clerestoryref2_upper_l0 (fun b_1 => some (byts b_1)) (m + d + 1)) (fun b_1 => some (byts b_1)) (ints ((s.take i).map upB) ++ ints (s.drop i)) false) = some (s.map upB) := by
      unfold clerestoryref2_upper_j12 clerestoryref2_upper_j11
      by_cases hc : isLow s[i] = true
      · rw [if_pos hc, if_pos rfl, a1, Option.bind_some, Option.bind_some, Int.toNat_natCast, fin _ (by
          rw [← upB_low hc, wr_u8, UInt8.toNat_ofNat']
          omega), wi_id (by omega) (by omega), show (i : Int) + 1 = ((i + 1 : Nat) : Int) by omega]
        exact ih
      · rw [if_neg hc, if_neg (by simp), wi_id (by omega) (by omega), show (i : Int) + 1 = ((i + 1 : Nat) : Int) by omega]
        have e : ints ((s.take i).map upB) ++ ints (s.drop i) = ints ((s.take (i + 1)).map upB) ++ ints (s.drop (i + 1)) := by
          rw [hd, tk, List.map_append]
          unfold ints upB
          simp [hc]
        rw [e]
        exact ih
    rw [low] at go
    by_cases h97 : decide (97 ≤ (s[i].toNat : Int)) = true
    · rw [if_pos h97]
      rw [h97, Bool.true_and] at go
      by_cases h122 : decide ((s[i].toNat : Int) ≤ 122) = true
      · rw [if_pos h122] at go
        rw [Option.bind_some, h122]; exact go
      · rw [if_neg h122] at go
        rw [Option.bind_some, Bool.not_eq_true _ |>.mp h122]; exact go
    · rw [if_neg h97]
      rw [Bool.not_eq_true _ |>.mp h97, Bool.false_and, if_neg (by simp)] at go
      exact go
theorem upper_eq (s : List UInt8) (hl : s.length ≤ 1000000000) : clerestoryref2_upper s = some (s.map upB) := by
  unfold clerestoryref2_upper
  refine lim_add (s.length + 1) fun m => ?_
  have := rup_loop s hl s.length 0 (by omega) m
  rw [← Nat.add_assoc]
  simpa [ints] using this
end Go.Proofs.YtagfmlkihindaaaDoorBv
