/- A color's bytes, the document's way. No program is in sight. -/
import Derived.Test.YtmpdhpfimmahfaaDoorShPropTells
import Derived.Test.YtmpdhpfimmahfaaDoorBv44
namespace Go.Proofs.YtmpdhpfimmahfaaDoorBv
open Go
set_option linter.unusedSimpArgs false
set_option linter.unusedVariables false
/-- the byte of a color at a place: 3 the highest -/
def byteC (c : Int) (i : Nat) : Int := c % 4294967296 / 2 ^ (8 * i) % 256
theorem byteC_range (c : Int) (i : Nat) : 0 ≤ byteC c i ∧ byteC c i ≤ 255 := by unfold byteC; omega
theorem shr32 (c : Int) (i : Nat) (hi : i < 4) : shr .u32 (wr .u32 c) (8 * i) = c % 4294967296 / 2 ^ (8 * i) ∧ 0 ≤ c % 4294967296 / 2 ^ (8 * i) ∧ c % 4294967296 / 2 ^ (8 * i) < 4294967296 := by
  have e : shr .u32 (wr .u32 c) (8 * i) = (wr .u32 c).fdiv (2 ^ (min (8 * i) 32)) := rfl
  have h0 : 0 ≤ c % 4294967296 ∧ c % 4294967296 < 4294967296 := by omega
  have hp : (0 : Int) < 2 ^ (8 * i) := Int.pow_pos (by omega)
  rw [e, wr_u32, Nat.min_eq_left (by omega), Int.fdiv_eq_ediv_of_nonneg _ (Int.le_of_lt hp)]
  refine ⟨rfl, Int.ediv_nonneg h0.1 (Int.le_of_lt hp), Int.lt_of_le_of_lt (Int.ediv_le_self _ h0.1) h0.2⟩
theorem ref_byte (c : Int) (i : Nat) (hi : i < 4) : clerestoryref2_Byte c (i : Int) = some (byteC c i) := by
  obtain ⟨h1, h2, h3⟩ := shr32 c i hi
  unfold clerestoryref2_Byte
  rw [wi_id (by omega) (by omega), wr_u64, shrq (by omega), show ((8 * (i : Int)) % 18446744073709551616).toNat = 8 * i by omega, h1, Option.bind_some, wr_i64, wi_id (by omega) (by omega), Int.tmod_eq_emod_of_nonneg h2]
  rfl
end Go.Proofs.YtmpdhpfimmahfaaDoorBv
