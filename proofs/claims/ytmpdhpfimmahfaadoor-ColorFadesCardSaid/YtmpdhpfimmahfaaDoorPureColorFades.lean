/- The law ColorFades, over plain values. No program is in sight. -/
import Derived.Test.YtmpdhpfimmahfaaDoorCByteColorFades
namespace Go.Proofs.YtmpdhpfimmahfaaDoorBv
open Go
set_option linter.unusedSimpArgs false
set_option linter.unusedVariables false
theorem andNot255 {x : Int} (h : 0 ≤ x ∧ x < 4294967296) : bitsV .andNot .u32 x 255 = x / 256 * 256 := by
  obtain ⟨m, rfl⟩ : ∃ m : Nat, x = m := ⟨x.toNat, by omega⟩
  have hm : m < 2 ^ 32 := by omega
  show wr .u32 (((BitVec.ofInt 32 (m : Int) &&& ~~~BitVec.ofInt 32 255).toNat : Nat) : Int) = _
  have e : BitVec.ofInt 32 (m : Int) &&& ~~~BitVec.ofInt 32 255 = (BitVec.ofNat 32 m >>> 8) <<< 8 := by
    have e1 : BitVec.ofInt 32 (m : Int) = BitVec.ofNat 32 m := by apply BitVec.eq_of_toNat_eq; simp [BitVec.toNat_ofInt]
    rw [e1]
    apply BitVec.eq_of_getLsbD_eq
    intro i hi
    have e2 : (BitVec.ofInt 32 255).getLsbD i = decide (i < 8) := by
      have : ∀ j : Fin 32, (BitVec.ofInt 32 255).getLsbD j.val = decide (j.val < 8) := by decide
      exact this ⟨i, hi⟩
    simp only [BitVec.getLsbD_and, BitVec.getLsbD_not, e2, BitVec.getLsbD_shiftLeft, BitVec.getLsbD_ushiftRight, hi, decide_true, Bool.true_and]
    by_cases h8 : i < 8
    · simp [h8]
    · simp only [h8, decide_false, Bool.not_false, Bool.and_true, Bool.true_and]
      congr 1
      omega
  rw [e, BitVec.toNat_shiftLeft, BitVec.toNat_ushiftRight, BitVec.toNat_ofNat, Nat.mod_eq_of_lt hm, Nat.shiftRight_eq_div_pow, Nat.shiftLeft_eq, wr_u32]
  omega
theorem or_mul {m x : Int} (h : 0 ≤ m ∧ m < 4294967296) (hx : 0 ≤ x ∧ x ≤ 255) : bitsV .or .i64 (m * 256) x = m * 256 + x := by
  have e0 : shl .i64 m 8 = m * 256 := by
    show wi (m * 2 ^ (min 8 64)) = _
    rw [show (2 : Int) ^ (min 8 64) = 256 from rfl, wi_id (by omega) (by omega)]
  rw [← e0, or_byte h hx, e0]
  omega
theorem fade_eq (c n : Int) : ∃ v, color_Fade c n = some v ∧ ∃ r, clerestoryref2_Byte c 0 = some r ∧ v = wi ((wi ((wi ((wr .i64 (wr .u32 c)).tdiv 256)) * 256)) + (wi ((wi (r * (mx 0 (mn n 1000)))).tdiv 1000))) := by
  have hb := byteC_range c 0
  have hk : 0 ≤ mx 0 (mn n 1000) ∧ mx 0 (mn n 1000) ≤ 1000 := by unfold mx mn; split <;> split <;> omega
  have hk2 : mn (mx n 0) 1000 = mx 0 (mn n 1000) := by unfold mx mn; (repeat' split) <;> omega
  have hp : 0 ≤ byteC c 0 * mx 0 (mn n 1000) ∧ byteC c 0 * mx 0 (mn n 1000) ≤ 255 * 1000 := ⟨Int.mul_nonneg hb.1 hk.1, Int.mul_le_mul hb.2 hk.2 hk.1 (by omega)⟩
  refine ⟨_, ?_, byteC c 0, ref_byte c 0 (by omega), rfl⟩
  unfold color_Fade
  have e0 : color_part c 0 = some (byteC c 0) := part_byte c 0 (by omega)
  rw [e0, Option.bind_some, letIn_eq, hk2, wr_u32, andNot255 (by omega), wr_i64, wr_i64, wi_id (n := byteC c 0 * _) (by omega) (by omega), Int.tdiv_eq_ediv_of_nonneg hp.1, wi_id (n := _ / 1000) (by omega) (by omega), wi_id (n := _ / 256 * 256) (by omega) (by omega),
    or_mul (by omega) (by omega), wi_id (n := c % 4294967296) (by omega) (by omega), Int.tdiv_eq_ediv_of_nonneg (by omega), wi_id (n := _ / 256) (by omega) (by omega), wi_id (n := _ / 256 * 256) (by omega) (by omega), wi_id (by omega) (by omega)]
theorem pureColorFades : PureColorFades := by
  intro c n hc hn
  unfold clerestorylaw2_ColorFades clerestorylaw2_ColorFades_j1
  obtain ⟨v, h1, r, h2, h3⟩ := fade_eq c n
  rw [red_eq, Option.bind_some, h2, Option.bind_some, letIn_eq, if_pos rfl, h1, Option.bind_some, h3]
  simp
end Go.Proofs.YtmpdhpfimmahfaaDoorBv
