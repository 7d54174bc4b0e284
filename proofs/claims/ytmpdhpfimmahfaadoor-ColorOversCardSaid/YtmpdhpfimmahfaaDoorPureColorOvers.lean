/- The law ColorOvers, over plain values. No program is in sight. -/
import Derived.Test.YtmpdhpfimmahfaaDoorCByteColorOvers
namespace Go.Proofs.YtmpdhpfimmahfaaDoorBv
open Go
set_option linter.unusedSimpArgs false
set_option linter.unusedVariables false
/-- how much of a byte is seen -/
def seen (x y a b all : Int) : Int := (x * a * 255 + y * b * (255 - a)) / (all * 255)
theorem seen_eq {x y a b all : Int} (hx : 0 ≤ x ∧ x ≤ 255) (hy : 0 ≤ y ∧ y ≤ 255) (ha : 0 ≤ a ∧ a ≤ 255) (hb : 0 ≤ b ∧ b ≤ 255) (hall : 0 < all ∧ all ≤ 1000) :
    quo? .i64 (wi ((wi ((wi (x * a)) * 255)) + (wi ((wi (y * b)) * (wi (255 - a)))))) (wi (all * 255)) = some (seen x y a b all) ∧ 0 ≤ seen x y a b all := by
  have h1 := mul_byte hx ha
  have h2 := mul_byte hy hb
  have h3 : 0 ≤ y * b * (255 - a) ∧ y * b * (255 - a) ≤ 65025 * 255 := ⟨Int.mul_nonneg h2.1 (by omega), Int.mul_le_mul (by omega) (by omega) (by omega) (by omega)⟩
  have h4 : 0 ≤ (x * a * 255 + y * b * (255 - a)) / (all * 255) ∧ (x * a * 255 + y * b * (255 - a)) / (all * 255) ≤ x * a * 255 + y * b * (255 - a) := ⟨Int.ediv_nonneg (by omega) (by omega), Int.ediv_le_self _ (by omega)⟩
  rw [wi_id (n := x * a) (by omega) (by omega), wi_id (n := x * a * 255) (by omega) (by omega), wi_id (n := y * b) (by omega) (by omega), wi_id (n := 255 - a) (by omega) (by omega), wi_id (n := y * b * (255 - a)) (by omega) (by omega), wi_id (n := x * a * 255 + y * b * (255 - a)) (by omega) (by omega), wi_id (n := all * 255) (by omega) (by omega), quoq (by omega), Int.tdiv_eq_ediv_of_nonneg (by omega)]
  refine ⟨?_, h4.1⟩
  show some (wi _) = _
  rw [wi_id (by omega) (by omega)]
  rfl
def mnB (x : Int) : Int := if x < 255 then x else 255
theorem mnB_range {x : Int} (h : 0 ≤ x) : 0 ≤ mnB x ∧ mnB x ≤ 255 := by unfold mnB; split <;> omega
theorem mn_l (x : Int) : mn x 255 = mnB x := by unfold mn mnB; (repeat' split) <;> omega
theorem mn_r (x : Int) : mn 255 x = mnB x := by unfold mn mnB; (repeat' split) <;> omega
theorem over_step (top under : Int) (K : Int → Option Int) (all : Int) (hall : 0 < all ∧ all ≤ 1000) (he : wi ((wi (byteC top 0 + byteC under 0)) - (wi ((wi (byteC top 0 * byteC under 0)).tdiv 255))) = all) (k : Nat) (out : Int) (ho : 0 ≤ out ∧ out < 4294967296) (v : Int) (hv : v < 3) (i : Nat) (hi : i < 4) (hx : at? [3, 2, 1] v = some (i : Int)) :
    color_Over_l0 top under (byteC top 0) (byteC under 0) K (k + 1) out v = color_Over_l0 top under (byteC top 0) (byteC under 0) K k (256 * out + mnB (seen (byteC top i) (byteC under i) (byteC top 0) (byteC under 0) all)) (wi (v + 1)) := by
  obtain ⟨h1, h2⟩ := seen_eq (byteC_range top i) (byteC_range under i) (byteC_range top 0) (byteC_range under 0) hall
  rw [color_Over_l0, if_pos (by simpa using hv), hx, Option.bind_some, part_byte top i hi, Option.bind_some, part_byte under i hi, Option.bind_some, letIn_eq, he, h1, Option.bind_some, mn_l, or_byte ho (mnB_range h2)]
theorem rover_step (top under : Int) (K : Int → Option Int) (all : Int) (hall : 0 < all ∧ all ≤ 1000) (he : wi ((wi (byteC top 0 + byteC under 0)) - (wi ((wi (byteC top 0 * byteC under 0)).tdiv 255))) = all) (k : Nat) (out : Int) (ho : 0 ≤ out ∧ out < 4294967296) (i : Nat) (h0 : 0 < i) (hi : i < 4) :
    clerestoryref2_OverOf_l0 top under (byteC top 0) (byteC under 0) K (k + 1) out (i : Int) = clerestoryref2_OverOf_l0 top under (byteC top 0) (byteC under 0) K k (256 * out + mnB (seen (byteC top i) (byteC under i) (byteC top 0) (byteC under 0) all)) ((i - 1 : Nat) : Int) := by
  obtain ⟨h1, h2⟩ := seen_eq (byteC_range top i) (byteC_range under i) (byteC_range top 0) (byteC_range under 0) hall
  have hm := mnB_range h2
  rw [clerestoryref2_OverOf_l0, if_pos (by simp only [decide_eq_true_eq]; omega), ref_byte top i hi, Option.bind_some, ref_byte under i hi, Option.bind_some, letIn_eq, he, h1, Option.bind_some, mn_r, wi_id (n := 256 * out) (by omega) (by omega), wi_id (n := 256 * out + _) (by omega) (by omega), wi_id (n := (i : Int) - 1) (by omega) (by omega), show (i : Int) - 1 = ((i - 1 : Nat) : Int) by omega]
theorem all_range {a b : Int} (ha : 0 ≤ a ∧ a ≤ 255) (hb : 0 ≤ b ∧ b ≤ 255) : wi ((wi (a + b)) - (wi ((wi (a * b)).tdiv 255))) = a + b - a * b / 255 ∧ 0 ≤ a + b - a * b / 255 ∧ a + b - a * b / 255 ≤ 255 := by
  have h1 := mul_byte ha hb
  have h2 : 0 ≤ (255 - a) * (255 - b) := Int.mul_nonneg (by omega) (by omega)
  have h3 : (255 - a) * (255 - b) = 65025 - 255 * a - 255 * b + a * b := by grind
  rw [wi_id (n := a + b) (by omega) (by omega), wi_id (n := a * b) (by omega) (by omega), Int.tdiv_eq_ediv_of_nonneg h1.1, wi_id (n := a * b / 255) (by omega) (by omega), wi_id (by omega) (by omega)]
  refine ⟨rfl, by omega, by omega⟩
theorem over_eq (top under : Int) : ∃ v, color_Over top under = some v ∧ clerestoryref2_OverOf top under = some v := by
  have ha := byteC_range top 0
  have hb := byteC_range under 0
  obtain ⟨e, h0, h1⟩ := all_range ha hb
  have p0 : ∀ c, color_part c 0 = some (byteC c 0) := fun c => part_byte c 0 (by omega)
  have q0 : ∀ c, clerestoryref2_Byte c 0 = some (byteC c 0) := fun c => ref_byte c 0 (by omega)
  unfold color_Over clerestoryref2_OverOf
  rw [p0, p0, q0, q0, Option.bind_some, Option.bind_some, Option.bind_some, Option.bind_some]
  generalize hall : byteC top 0 + byteC under 0 - byteC top 0 * byteC under 0 / 255 = all at e h0 h1
  rw [e]
  by_cases hz : all = 0
  · exact ⟨0, by rw [if_pos (by simpa using hz)], by rw [if_pos (by simpa using hz)]⟩
  · rw [if_neg (by simpa using hz), if_neg (by simpa using hz)]
    have hA : 0 < all ∧ all ≤ 1000 := by omega
    have hs := fun i => (mnB_range (seen_eq (byteC_range top i) (byteC_range under i) (byteC_range top 0) (byteC_range under 0) hA).2)
    have s3 := hs 3
    have s2 := hs 2
    have s1 := hs 1
    have w1 : wi (0 + 1) = 1 := by decide
    have w2 : wi (1 + 1) = 2 := by decide
    have w3 : wi (2 + 1) = 3 := by decide
    refine ⟨_, lim_add (c := some (256 * (256 * (256 * (256 * 0 + mnB (seen (byteC top 3) (byteC under 3) (byteC top 0) (byteC under 0) all)) + mnB (seen (byteC top 2) (byteC under 2) (byteC top 0) (byteC under 0) all)) + mnB (seen (byteC top 1) (byteC under 1) (byteC top 0) (byteC under 0) all)) + all)) 4 fun k => ?_, lim_add 4 fun k => ?_⟩
    · rw [over_step top under _ all hA e (k + 3) 0 (by omega) 0 (by omega) 3 (by omega) rfl, w1, over_step top under _ all hA e (k + 2) _ (by omega) 1 (by omega) 2 (by omega) rfl, w2, over_step top under _ all hA e (k + 1) _ (by omega) 2 (by omega) 1 (by omega) rfl, w3,
        color_Over_l0, if_neg (by decide), letIn_eq, or_byte (by omega) (by omega)]
    · have r3 := rover_step top under (fun (n_1 : Int) => letIn (wi ((wi (256 * n_1)) + all)) fun v53 : Int => some v53) all hA e (k + 3) 0 (by omega) 3 (by omega) (by omega)
      refine r3.trans ?_
      rw [rover_step top under _ all hA e (k + 2) _ (by omega) 2 (by omega) (by omega), rover_step top under _ all hA e (k + 1) _ (by omega) 1 (by omega) (by omega), clerestoryref2_OverOf_l0, if_neg (by decide), letIn_eq, wi_id (n := 256 * _) (by omega) (by omega), wi_id (by omega) (by omega)]
theorem pureColorOvers : PureColorOvers := by
  intro a b ha hb
  obtain ⟨v, h1, h2⟩ := over_eq a b
  unfold clerestorylaw2_ColorOvers clerestorylaw2_ColorOvers_j1
  rw [red_eq, Option.bind_some, if_pos rfl, h1, Option.bind_some, h2, Option.bind_some]
  simp
end Go.Proofs.YtmpdhpfimmahfaaDoorBv
