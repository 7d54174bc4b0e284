/- The law of a script's tokens, over plain values of bounded bulk. No program is in sight. -/
import Derived.Test.YtagfmlkihindaaaDoorJRunJlexSays
import Derived.Test.YtagfmlkihindaaaDoorBv29
namespace Go.Proofs.YtagfmlkihindaaaDoorBv
open Go
set_option linter.unusedSimpArgs false
set_option linter.unusedVariables false
def hxD : List UInt8 := [48, 49, 50, 51, 52, 53, 54, 55, 56, 57, 97, 98, 99, 100, 101, 102]
def hA (c : UInt8) : UInt8 := hxD.getD (c.toNat / 16) 0
def hB (c : UInt8) : UInt8 := hxD.getD (c.toNat % 16) 0
theorem hex_prog (c : UInt8) : sub? hxD (shr .u8 (c.toNat : Int) 4) (wr .u8 ((shr .u8 (c.toNat : Int) 4) + 1)) = some [hA c] ∧ sub? hxD (bitsV .and .u8 (c.toNat : Int) 15) (wr .u8 ((bitsV .and .u8 (c.toNat : Int) 15) + 1)) = some [hB c] := by
  have := u8_all (p := fun c => decide (sub? hxD (shr .u8 (c.toNat : Int) 4) (wr .u8 ((shr .u8 (c.toNat : Int) 4) + 1)) = some [hA c] ∧ sub? hxD (bitsV .and .u8 (c.toNat : Int) 15) (wr .u8 ((bitsV .and .u8 (c.toNat : Int) 15) + 1)) = some [hB c])) (by decide +kernel) c
  exact of_decide_eq_true this
theorem hex_doc (c : UInt8) : sub? hxD (wr .u8 ((c.toNat : Int).tdiv 16)) (wr .u8 ((wr .u8 ((c.toNat : Int).tdiv 16)) + 1)) = some [hA c] ∧ sub? hxD ((c.toNat : Int).tmod 16) (wr .u8 (((c.toNat : Int).tmod 16) + 1)) = some [hB c] := by
  have := u8_all (p := fun c => decide (sub? hxD (wr .u8 ((c.toNat : Int).tdiv 16)) (wr .u8 ((wr .u8 ((c.toNat : Int).tdiv 16)) + 1)) = some [hA c] ∧ sub? hxD ((c.toNat : Int).tmod 16) (wr .u8 (((c.toNat : Int).tmod 16) + 1)) = some [hB c])) (by decide +kernel) c
  exact of_decide_eq_true this
theorem between_q (c : UInt8) : clerestoryref4_Between (wr .i64 (c.toNat : Int)) 32 126 = decide (32 ≤ c.toNat ∧ c.toNat ≤ 126) := by
  have := u8_all (p := fun c => decide (clerestoryref4_Between (wr .i64 (c.toNat : Int)) 32 126 = decide (32 ≤ c.toNat ∧ c.toNat ≤ 126))) (by decide +kernel) c
  exact of_decide_eq_true this
def qB (c : UInt8) : List UInt8 :=
  if c.toNat = 34 ∨ c.toNat = 92 then [92, c] else if c.toNat = 10 then [92, 110] else if c.toNat = 9 then [92, 116] else if c.toNat < 32 ∨ 126 < c.toNat then [92, 120, hA c, hB c] else [c]
def qL (s : List UInt8) : List UInt8 := s.flatMap qB
theorem qB_len (c : UInt8) : (qB c).length ≤ 4 := by
  unfold qB
  repeat' split
  all_goals simp
theorem qL_len (s : List UInt8) : (qL s).length ≤ 4 * s.length := by
  induction s with
  | nil => simp [qL]
  | cons c r ih =>
    unfold qL at ih ⊢
    rw [List.flatMap_cons, List.length_append, List.length_cons]
    have := qB_len c
    omega
theorem qL_take {s : List UInt8} {i : Nat} (h : i < s.length) : qL (s.take (i + 1)) = qL (s.take i) ++ qB s[i] := by
  have tk : s.take (i + 1) = s.take i ++ [s[i]] := by rw [List.take_add_one, List.getElem?_eq_getElem h]; rfl
  unfold qL
  rw [tk, List.flatMap_append]
  simp
theorem bws {l s : List UInt8} (h : l.length + s.length ≤ 140737488355328) : strings_Builder_WriteString l s = some (l ++ s) := if_pos h
theorem bwb {l : List UInt8} {c : UInt8} (h : l.length + 1 ≤ 140737488355328) : strings_Builder_WriteByte l (c.toNat : Int) = some (l ++ [c]) := by
  show bWriteByte? l _ = _
  unfold bWriteByte?
  have := c.toNat_lt
  rw [if_pos ⟨h, by omega, by omega⟩]
  simp
theorem quote_loop (s : List UInt8) (hl : s.length ≤ 10000000) (K : List UInt8 → Option (List UInt8)) : ∀ (d i : Nat), i + d = s.length → ∀ m, jlex_Quote_l0 s K (m + d + 1) (34 :: qL (s.take i)) (i : Int) = K (34 :: qL s)
  | 0, i, hi, m => by
    obtain rfl : i = s.length := by omega
    rw [jlex_Quote_l0, if_neg (by simp), List.take_length]
  | d + 1, i, hi, m => by
    have h : i < s.length := by omega
    have hlen := qL_len (s.take i)
    rw [List.length_take] at hlen
    have ih := quote_loop s hl K d (i + 1) (by omega) m
    rw [qL_take h] at ih
    have hs : ∀ self out, jlex_Quote_j3 (i : Int) s self K out = self out ((i + 1 : Nat) : Int) := by
      intro self out
      unfold jlex_Quote_j3
      rw [wi_id (by omega) (by omega)]
      rfl
    rw [jlex_Quote_l0, if_pos (by simp only [decide_eq_true_eq]; omega), at_some h, Option.bind_some]
    unfold qB at ih
    by_cases c1 : s[i].toNat = 34 ∨ s[i].toNat = 92
    · rw [if_pos c1] at ih
      have c1' : (s[i].toNat : Int) = 34 ∨ (s[i].toNat : Int) = 92 := by omega
      rw [if_pos (by simpa using c1'), show byts [(s[i].toNat : Int)] = [s[i]] by simp [byts], catq (by simp), Option.bind_some, bws (by simp; omega), Option.bind_some, hs]
      exact ih
    · rw [if_neg c1] at ih
      have c1' : ¬ ((s[i].toNat : Int) = 34 ∨ (s[i].toNat : Int) = 92) := by omega
      rw [if_neg (by simpa using c1')]
      by_cases c2 : s[i].toNat = 10
      · rw [if_pos c2] at ih
        rw [if_pos (by simp only [decide_eq_true_eq]; omega), bws (by simp; omega), Option.bind_some, hs]
        exact ih
      · rw [if_neg c2] at ih
        rw [if_neg (by simp only [decide_eq_true_eq]; omega)]
        by_cases c3 : s[i].toNat = 9
        · rw [if_pos c3] at ih
          rw [if_pos (by simp only [decide_eq_true_eq]; omega), bws (by simp; omega), Option.bind_some, hs]
          exact ih
        · rw [if_neg c3] at ih
          rw [if_neg (by simp only [decide_eq_true_eq]; omega)]
          by_cases c4 : s[i].toNat < 32 ∨ 126 < s[i].toNat
          · rw [if_pos c4] at ih
            have c4' : (s[i].toNat : Int) < 32 ∨ 126 < (s[i].toNat : Int) := by omega
            have h1 := (hex_prog s[i]).1
            have h2 := (hex_prog s[i]).2
            unfold hxD at h1 h2
            rw [if_pos (by simpa using c4'), h1, Option.bind_some, catq (by simp), Option.bind_some, h2, Option.bind_some, catq (by simp), Option.bind_some, bws (by simp; omega), Option.bind_some, hs]
            exact ih
          · rw [if_neg c4] at ih
            have c4' : ¬ ((s[i].toNat : Int) < 32 ∨ 126 < (s[i].toNat : Int)) := by omega
            rw [if_neg (by simpa using c4'), bwb (by simp; omega), Option.bind_some, hs]
            exact ih
theorem quote_eq (s : List UInt8) (hl : s.length ≤ 10000000) : jlex_Quote s = some (34 :: qL s ++ [34]) := by
  unfold jlex_Quote
  have hlen := qL_len s
  rw [show strings_Builder_WriteByte ([] : List UInt8) 34 = some [34] from bwb (c := 34) (by simp), Option.bind_some]
  refine lim_add (s.length + 1) fun m => ?_
  refine (quote_loop s hl _ s.length 0 (by omega) m).trans ?_
  rw [show strings_Builder_WriteByte (34 :: qL s) 34 = some ((34 :: qL s) ++ [34]) from bwb (c := 34) (by simp; omega), Option.bind_some]
theorem quoted_loop (s : List UInt8) (hl : s.length ≤ 10000000) (K : List UInt8 → Option (List UInt8)) : ∀ (d i : Nat), i + d = s.length → ∀ m, clerestoryref4_Quoted_l0 s K (m + d + 1) (34 :: qL (s.take i)) (i : Int) = K (34 :: qL s)
  | 0, i, hi, m => by
    obtain rfl : i = s.length := by omega
    rw [clerestoryref4_Quoted_l0, if_neg (by simp), List.take_length]
  | d + 1, i, hi, m => by
    have h : i < s.length := by omega
    have hlen := qL_len (s.take i)
    rw [List.length_take] at hlen
    have ih := quoted_loop s hl K d (i + 1) (by omega) m
    rw [qL_take h] at ih
    have hs : ∀ self out, clerestoryref4_Quoted_j3 (i : Int) s self K out = self out ((i + 1 : Nat) : Int) := by
      intro self out
      unfold clerestoryref4_Quoted_j3
      rw [wi_id (by omega) (by omega)]
      rfl
    have e3 : sub? s (i : Int) (wi ((i : Int) + 1)) = some [s[i]] := by
      rw [wi_id (by omega) (by omega), show (i : Int) + 1 = ((i + 1 : Nat) : Int) by omega, sub_nat (by omega) (by omega)]
      congr 1
      rw [List.drop_take, show i + 1 - i = 1 by omega, List.drop_eq_getElem_cons h]
      rfl
    rw [clerestoryref4_Quoted_l0, if_pos (by simp only [decide_eq_true_eq]; omega), at_some h, Option.bind_some]
    unfold qB at ih
    by_cases c2 : s[i].toNat = 10
    · rw [if_neg (by omega), if_pos c2] at ih
      rw [if_pos (by simp only [decide_eq_true_eq]; omega), catq (by simp; omega), Option.bind_some, hs]
      exact ih
    · rw [if_neg (by simp only [decide_eq_true_eq]; omega)]
      by_cases c3 : s[i].toNat = 9
      · rw [if_neg (by omega), if_neg c2, if_pos c3] at ih
        rw [if_pos (by simp only [decide_eq_true_eq]; omega), catq (by simp; omega), Option.bind_some, hs]
        exact ih
      · rw [if_neg (by simp only [decide_eq_true_eq]; omega), between_q]
        by_cases c4 : s[i].toNat < 32 ∨ 126 < s[i].toNat
        · rw [if_neg (by omega), if_neg c2, if_neg c3, if_pos c4] at ih
          have h1 := (hex_doc s[i]).1
          have h2 := (hex_doc s[i]).2
          unfold hxD at h1 h2
          have c4' : ¬ (32 ≤ s[i].toNat ∧ s[i].toNat ≤ 126) := by omega
          rw [if_pos (by simp only [c4', decide_false]; rfl), h1, Option.bind_some, catq (by simp), Option.bind_some, h2, Option.bind_some, catq (by simp), Option.bind_some, catq (by simp; omega), Option.bind_some, hs]
          exact ih
        · have c4' : (32 ≤ s[i].toNat ∧ s[i].toNat ≤ 126) := by omega
          rw [if_neg (by simp only [c4', and_self, decide_true]; simp)]
          by_cases c1 : s[i].toNat = 34 ∨ s[i].toNat = 92
          · rw [if_pos c1] at ih
            have c1' : (s[i].toNat : Int) = 34 ∨ (s[i].toNat : Int) = 92 := by omega
            rw [if_pos (by simpa using c1'), e3, Option.bind_some, catq (by simp), Option.bind_some, catq (by simp; omega), Option.bind_some, hs]
            exact ih
          · rw [if_neg c1, if_neg c2, if_neg c3, if_neg c4] at ih
            have c1' : ¬ ((s[i].toNat : Int) = 34 ∨ (s[i].toNat : Int) = 92) := by omega
            rw [if_neg (by simpa using c1'), e3, Option.bind_some, catq (by simp; omega), Option.bind_some, hs]
            exact ih
theorem quoted_eq (s : List UInt8) (hl : s.length ≤ 10000000) : clerestoryref4_Quoted s = some (34 :: qL s ++ [34]) := by
  unfold clerestoryref4_Quoted
  have hlen := qL_len s
  refine lim_add (s.length + 1) fun m => ?_
  refine (quoted_loop s hl _ s.length 0 (by omega) m).trans ?_
  rw [catq (by simp; omega), Option.bind_some]
theorem pureJlexSays : PureJlexSays := by
  intro s _ hb
  have hs : s.length ≤ 1048576 := by
    simp only [bulkVs, bulkV, bulkC] at hb
    omega
  obtain ⟨r, r1, r2, r3⟩ := tokens_eq s
  unfold clerestorylaw4_JlexSays clerestorylaw4_JlexSays_j1
  rw [r2, Option.bind_some, r3, Option.bind_some, same_refl r.1 r1, Option.bind_some, if_pos (by simp), quote_eq s (by omega), Option.bind_some, quoted_eq s (by omega), Option.bind_some]
  simp
end Go.Proofs.YtagfmlkihindaaaDoorBv
