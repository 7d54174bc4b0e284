/- The law of codes of addresses, over plain values of bounded bulk. No program is in sight. -/
import Derived.Test.YtagfmlkihindaaaDoorUrlBytesUrlCodes
import Derived.Test.YtagfmlkihindaaaDoorBv31
namespace Go.Proofs.YtagfmlkihindaaaDoorBv
open Go
set_option linter.unusedSimpArgs false
set_option linter.unusedVariables false
theorem decoded_loop (l : List Tunit) (t : Bool) (hl : l.length ≤ 10000000) : ∀ (d i : Nat), i + d = l.length → ∀ m, clerestoryref4_Decoded_l0 (l, t) (fun out1 => some (byts out1, t)) (m + d + 1) ((l.take i).map uF) l (i : Int) = some (byts (l.map uF), t)
  | 0, i, hi, m => by
    obtain rfl : i = l.length := by omega
    rw [clerestoryref4_Decoded_l0, if_neg (by simp), List.take_length]
  | d + 1, i, hi, m => by
    have h : i < l.length := by omega
    have tk : l.take (i + 1) = l.take i ++ [l[i]] := by rw [List.take_add_one, List.getElem?_eq_getElem h]; rfl
    have ih := decoded_loop l t hl d (i + 1) (by omega) m
    rw [tk, List.map_append] at ih
    rw [clerestoryref4_Decoded_l0, if_pos (by simp only [decide_eq_true_eq]; omega), at_some h, Option.bind_some, appq (by simp; omega), Option.bind_some, wi_id (by omega) (by omega), show (i : Int) + 1 = ((i + 1 : Nat) : Int) by omega, show m + (d + 1) = m + d + 1 by omega]
    exact ih
theorem decoded_eq (s : List UInt8) (hl : s.length ≤ 10000000) : clerestoryref4_Decoded s = match decU s with | some l => some (byts (l.map uF), true) | none => some ([], false) := by
  unfold clerestoryref4_Decoded
  rw [units_eq s hl]
  cases h : decU s with
  | none =>
    show (some (([] : List Tunit), false)).bind _ = _
    rw [Option.bind_some]
    refine lim_add 1 fun m => ?_
    exact decoded_loop [] false (by simp) 0 0 rfl m
  | some l =>
    have hlen := decU_len s.length s l (Nat.le_refl _) h
    show (some (l, true)).bind _ = _
    rw [Option.bind_some]
    refine lim_add (l.length + 1) fun m => ?_
    exact decoded_loop l true (by omega) l.length 0 (by omega) m
theorem pureUrlCodes : PureUrlCodes := by
  intro s _ hb
  have hs : s.length ≤ 1048576 := by
    simp only [bulkVs, bulkV, bulkC] at hb
    omega
  unfold clerestorylaw4_UrlCodes
  rw [encode_eq s (by omega), encoded_eq s (by omega), decode_eq s (by omega), decoded_eq s (by omega)]
  cases decU s with
  | none => simp
  | some l => simp
end Go.Proofs.YtagfmlkihindaaaDoorBv
