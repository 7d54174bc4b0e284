/- The law of mixed values, over plain values: both ways come to the same. No program is in sight. -/
import Derived.Test.YtgfcmhomndofaaaShAnimMixes
import Derived.Test.YtgfcmhomndofaaaBv23
namespace Go.Proofs.YtgfcmhomndofaaaBv
open Go
set_option linter.unusedSimpArgs false
set_option linter.unusedVariables false
def blend (a b t : Int) : Int := a + (b - a) * t / 1000
def byteV (n : Int) (i : Nat) : Int := n % 4294967296 / 2 ^ (8 * i) % 256
theorem byte_in (n : Int) (i : Nat) : 0 ≤ byteV n i ∧ byteV n i ≤ 255 := by unfold byteV; omega
theorem floor_lo (n : Int) : n.tdiv 1000 = n / 1000 + (if n.tmod 1000 < 0 then 1 else 0) := by
  rcases Int.le_total 0 n with h | h
  · rw [Int.tdiv_eq_ediv_of_nonneg h, Int.tmod_eq_emod_of_nonneg h, if_neg (by omega)]; omega
  · obtain ⟨m, rfl⟩ : ∃ m, n = -m := ⟨-n, by omega⟩
    have hm : 0 ≤ m := by omega
    rw [Int.neg_tdiv, Int.neg_tmod, Int.tdiv_eq_ediv_of_nonneg hm, Int.tmod_eq_emod_of_nonneg hm]
    split <;> omega
theorem tmod_eq (n : Int) : n.tmod 1000 = n - 1000 * n.tdiv 1000 := by have := Int.mul_tdiv_add_tmod n 1000; omega
theorem mul_in {x t m : Int} (hx : -m ≤ x ∧ x ≤ m) (ht : 0 ≤ t ∧ t ≤ 1000) (hm : 0 ≤ m) : -(m * 1000) ≤ x * t ∧ x * t ≤ m * 1000 := by
  have h1 : x * t ≤ m * t := Int.mul_le_mul_of_nonneg_right hx.2 ht.1
  have h2 : m * t ≤ m * 1000 := Int.mul_le_mul_of_nonneg_left ht.2 hm
  have h3 : -m * t ≤ x * t := Int.mul_le_mul_of_nonneg_right hx.1 ht.1
  rw [Int.neg_mul] at h3
  omega
theorem blend_in {a b t lo hi : Int} (ha : lo ≤ a ∧ a ≤ hi) (hb : lo ≤ b ∧ b ≤ hi) (ht : 0 ≤ t ∧ t ≤ 1000) : lo ≤ blend a b t ∧ blend a b t ≤ hi := by
  unfold blend
  rcases Int.le_total a b with h | h
  · have h1 : 0 ≤ (b - a) * t := Int.mul_nonneg (by omega) ht.1
    have h2 : (b - a) * t ≤ (b - a) * 1000 := Int.mul_le_mul_of_nonneg_left ht.2 (by omega)
    omega
  · have h1 : 0 ≤ (a - b) * t := Int.mul_nonneg (by omega) ht.1
    have h2 : (a - b) * t ≤ (a - b) * 1000 := Int.mul_le_mul_of_nonneg_left ht.2 (by omega)
    have h3 : (b - a) * t = -((a - b) * t) := by rw [← Int.neg_mul]; congr 1; omega
    omega
theorem and255 {x : Int} (h : 0 ≤ x ∧ x < 4294967296) : bitsV .and .u32 x 255 = x % 256 := by
  obtain ⟨m, rfl⟩ : ∃ m : Nat, x = m := ⟨x.toNat, by omega⟩
  show wr .u32 (((BitVec.ofInt 32 (m : Int) &&& BitVec.ofInt 32 255).toNat : Nat) : Int) = _
  rw [BitVec.toNat_and]
  have e1 : (BitVec.ofInt 32 (m : Int)).toNat = m := by simp [BitVec.toNat_ofInt]; omega
  have e2 : (BitVec.ofInt 32 255).toNat = 2 ^ 8 - 1 := by decide
  rw [e1, e2, Nat.and_two_pow_sub_one_eq_mod, wr_u32]
  omega
theorem or256 {m x : Int} (h : 0 ≤ m ∧ m < 4294967296) (hx : 0 ≤ x ∧ x ≤ 255) : bitsV .or .i64 (m * 256) x = m * 256 + x := by
  obtain ⟨a, rfl⟩ : ∃ a : Nat, m = a := ⟨m.toNat, by omega⟩
  obtain ⟨b, rfl⟩ : ∃ b : Nat, x = b := ⟨x.toNat, by omega⟩
  show wi (((BitVec.ofInt 64 ((a : Int) * 256) ||| BitVec.ofInt 64 (b : Int)).toNat : Nat) : Int) = _
  rw [BitVec.toNat_or]
  have e1 : (BitVec.ofInt 64 ((a : Int) * 256)).toNat = a <<< 8 := by rw [Nat.shiftLeft_eq]; simp [BitVec.toNat_ofInt]; omega
  have e2 : (BitVec.ofInt 64 (b : Int)).toNat = b := by simp [BitVec.toNat_ofInt]; omega
  rw [e1, e2, ← Nat.shiftLeft_add_eq_or_of_lt (by omega), Nat.shiftLeft_eq, wi_id (by omega) (by omega)]
  omega

theorem part_eq {a b t : Int} (ha : -16777216 ≤ a ∧ a ≤ 16777216) (hb : -16777216 ≤ b ∧ b ≤ 16777216) (ht : 0 ≤ t ∧ t ≤ 1000) : anim_part a b t = blend a b t := by
  have hm := mul_in (x := b - a) (m := 33554432) (by omega) ht (by omega)
  have hbl := blend_in ha hb ht
  have hfl := floor_lo ((b - a) * t)
  have hq : -33554433 ≤ ((b - a) * t).tdiv 1000 ∧ ((b - a) * t).tdiv 1000 ≤ 33554433 := by split at hfl <;> omega
  unfold anim_part anim_part_j1
  rw [wi_id (n := b - a) (by omega) (by omega), wi_id (n := (b - a) * t) (by omega) (by omega), wi_id (n := ((b - a) * t).tdiv 1000) (by omega) (by omega), wi_id (n := ((b - a) * t).tdiv 1000 - 1) (by omega) (by omega),
    wi_id (n := a + (((b - a) * t).tdiv 1000 - 1)) (by omega) (by omega), wi_id (n := a + ((b - a) * t).tdiv 1000) (by omega) (by omega)]
  unfold blend
  by_cases hlt : ((b - a) * t).tmod 1000 < 0
  · rw [if_pos (by simpa using hlt)]; rw [if_pos hlt] at hfl; omega
  · rw [if_neg (by simpa using hlt)]; rw [if_neg hlt] at hfl; omega
theorem whole_eq {n : Int} (hn : -1000000000000 ≤ n ∧ n ≤ 1000000000000) : clerestoryref2_Whole n 1000 = some (n / 1000) := by
  have hfl := floor_lo n
  have htm := tmod_eq n
  have hq : -1000000001 ≤ n.tdiv 1000 ∧ n.tdiv 1000 ≤ 1000000001 := by split at hfl <;> omega
  unfold clerestoryref2_Whole clerestoryref2_Whole_j1
  rw [quoq (by decide), Option.bind_some, show IntKind.i64.wrap (n.tdiv 1000) = n.tdiv 1000 from wi_id (by omega) (by omega), wi_id (n := n.tdiv 1000 * 1000) (by omega) (by omega), wi_id (n := n.tdiv 1000 - 1) (by omega) (by omega)]
  by_cases hlt : n.tmod 1000 < 0
  · rw [if_pos (by simp only [decide_eq_true_eq]; omega)]; rw [if_pos hlt] at hfl; congr 1; omega
  · rw [if_neg (by simp only [decide_eq_true_eq]; omega)]; rw [if_neg hlt] at hfl; congr 1; omega
theorem shr_u32 {n : Int} (i : Nat) (hi : i < 4) : shr .u32 (wr .u32 n) (8 * i) = n % 4294967296 / 2 ^ (8 * i) := by
  unfold shr
  rw [wr_u32, show min (8 * i) IntKind.u32.bits = 8 * i from Nat.min_eq_left (by show 8 * i ≤ 32; omega)]
  exact Int.fdiv_eq_ediv_of_nonneg _ (by have : (0 : Int) < 2 ^ (8 * i) := Int.pow_pos (by decide); omega)
theorem div_range (n : Int) (i : Nat) : 0 ≤ n % 4294967296 / 2 ^ (8 * i) ∧ n % 4294967296 / 2 ^ (8 * i) < 4294967296 := by
  have hp : (0 : Int) < 2 ^ (8 * i) := Int.pow_pos (by decide)
  have h0 : 0 ≤ n % 4294967296 := by omega
  exact ⟨Int.ediv_nonneg h0 (by omega), by have := Int.ediv_le_self (b := 2 ^ (8 * i)) h0; omega⟩
theorem byte_eq (n : Int) (i : Nat) (hi : i < 4) : clerestoryref2_Byte n (i : Int) = some (byteV n i) := by
  have hr := div_range n i
  have hb := byte_in n i
  unfold clerestoryref2_Byte
  rw [wi_id (n := 8 * (i : Int)) (by omega) (by omega), wr_u64, show 8 * (i : Int) % 18446744073709551616 = ((8 * i : Nat) : Int) by omega, shrq (by omega), Int.toNat_natCast, Option.bind_some, shr_u32 i hi, wr_i64, wi_id (by omega) (by omega),
    Int.tmod_eq_emod_of_nonneg hr.1]
  rfl
theorem step_anim (a b : TVal) (t : Int) (K : Int → Option TVal) (k : Nat) (n : Int) (i : Nat) (hi : i < 4) (hn : 0 ≤ n ∧ n < 16777216) :
    anim_Mix_l0 a b t K (k + 1) n (8 * (i : Int)) = anim_Mix_l0 a b t K k (n * 256 + blend (byteV a.N i) (byteV b.N i) (mn (mx t 0) 1000)) (8 * ((i : Int) - 1)) := by
  have hT : 0 ≤ mn (mx t 0) 1000 ∧ mn (mx t 0) 1000 ≤ 1000 := by unfold mn mx; split <;> split <;> omega
  have ba := byte_in a.N i
  have bb := byte_in b.N i
  have bl := blend_in (lo := 0) (hi := 255) ba bb hT
  rw [anim_Mix_l0]
  rw [if_pos (by simp only [decide_eq_true_eq]; omega), show 8 * (i : Int) = ((8 * i : Nat) : Int) by omega, shrq (by omega), shrq (by omega), Int.toNat_natCast, Option.bind_some, Option.bind_some, shr_u32 i hi, shr_u32 i hi, letIn_eq,
    and255 (div_range _ _), and255 (div_range _ _)]
  rw [show a.N % 4294967296 / 2 ^ (8 * i) % 256 = byteV a.N i from rfl, show b.N % 4294967296 / 2 ^ (8 * i) % 256 = byteV b.N i from rfl, wr_i64, wr_i64, wi_id (by omega) (by omega), wi_id (by omega) (by omega), part_eq (by omega) (by omega) hT]
  rw [show shl .i64 n 8 = n * 256 from by
    show IntKind.i64.wrap (n * 2 ^ (min 8 IntKind.i64.bits)) = n * 256
    exact wi_id (n := n * 256) (by omega) (by omega), or256 (by omega) bl, wi_id (by omega) (by omega)]
  congr 1
  omega
theorem step_ref (a b : TVal) (t : Int) (K : Int → Option TVal) (k : Nat) (n : Int) (i : Nat) (hi : i < 4) (hn : 0 ≤ n ∧ n < 16777216) :
    clerestoryref2_MixOf_l0 a b t K (k + 1) n (i : Int) = clerestoryref2_MixOf_l0 a b t K k (n * 256 + blend (byteV a.N i) (byteV b.N i) (mn (mx t 0) 1000)) ((i : Int) - 1) := by
  have hT : 0 ≤ mn (mx t 0) 1000 ∧ mn (mx t 0) 1000 ≤ 1000 := by unfold mn mx; split <;> split <;> omega
  have eT : mx 0 (mn t 1000) = mn (mx t 0) 1000 := by unfold mn mx; (repeat' split) <;> omega
  have ba := byte_in a.N i
  have bb := byte_in b.N i
  have bl := blend_in (lo := 0) (hi := 255) ba bb hT
  have hm := mul_in (x := byteV b.N i - byteV a.N i) (m := 255) (by omega) hT (by omega)
  rw [clerestoryref2_MixOf_l0]
  rw [if_pos (by simp only [decide_eq_true_eq]; omega), byte_eq _ i hi, byte_eq _ i hi, Option.bind_some, Option.bind_some, Option.bind_some, eT, wi_id (n := byteV b.N i - byteV a.N i) (by omega) (by omega), wi_id (n := (byteV b.N i - byteV a.N i) * _) (by omega) (by omega), whole_eq (by omega),
    Option.bind_some, wi_id (n := 256 * n) (by omega) (by omega), wi_id (n := 256 * n + byteV a.N i) (by omega) (by omega), wi_id (n := 256 * n + byteV a.N i + _) (by unfold blend at bl; omega) (by unfold blend at bl; omega), wi_id (n := (i : Int) - 1) (by omega) (by omega)]
  congr 1
  unfold blend
  omega
theorem mix_eq (a b : TVal) (t : Int) : ∃ r, anim_Mix a b t = some r ∧ clerestoryref2_MixOf a b t = some r := by
  have hT : 0 ≤ mn (mx t 0) 1000 ∧ mn (mx t 0) 1000 ≤ 1000 := by unfold mn mx; split <;> split <;> omega
  have eT : mx 0 (mn t 1000) = mn (mx t 0) 1000 := by unfold mn mx; (repeat' split) <;> omega
  unfold anim_Mix clerestoryref2_MixOf
  rw [eT]
  have c1 : (decide (a.Kind = b.Kind) && (decide (a.Kind = 2) || decide (a.Kind = 3) || decide (a.Kind = 4))) = (decide (a.Kind = b.Kind) && anim_in a.Kind 2 4) := by
    congr 1
    unfold anim_in
    rw [Bool.eq_iff_iff]
    simp
    omega
  rw [c1]
  cases h1 : (decide (a.Kind = b.Kind) && anim_in a.Kind 2 4) with
  | true =>
    have hc : ∀ n : Int, clerestoryref2_Cut n = anim_cut n := fun n => by unfold clerestoryref2_Cut anim_cut mn mx; (repeat' split) <;> omega
    have hi : ∀ n : Int, -16777216 ≤ anim_cut n ∧ anim_cut n ≤ 16777216 := fun n => by unfold anim_cut mn mx; split <;> split <;> omega
    have ha := hi a.N
    have hb := hi b.N
    have hm := mul_in (x := anim_cut b.N - anim_cut a.N) (m := 33554432) (by omega) hT (by omega)
    have bl := blend_in ha hb hT
    rw [if_pos rfl, if_pos rfl, hc, hc, letIn_eq, wi_id (n := anim_cut b.N - anim_cut a.N) (by omega) (by omega), wi_id (n := (anim_cut b.N - anim_cut a.N) * _) (by omega) (by omega), whole_eq (by omega), Option.bind_some, part_eq ha hb hT]
    refine ⟨_, rfl, ?_⟩
    rw [wi_id (by unfold blend at bl; omega) (by unfold blend at bl; omega)]
    rfl
  | false =>
    simp only [Bool.false_eq_true, if_false]
    by_cases h2 : (decide (a.Kind = 5) && decide (b.Kind = 5)) = true
    · rw [if_pos h2, if_pos h2]
      have r : ∀ i, 0 ≤ blend (byteV a.N i) (byteV b.N i) (mn (mx t 0) 1000) ∧ blend (byteV a.N i) (byteV b.N i) (mn (mx t 0) 1000) ≤ 255 := fun i => blend_in (byte_in _ _) (byte_in _ _) hT
      have r3 := r 3
      have r2 := r 2
      have r1 := r 1
      have r0 := r 0
      refine ⟨⟨5, (((0 * 256 + blend (byteV a.N 3) (byteV b.N 3) (mn (mx t 0) 1000)) * 256 + blend (byteV a.N 2) (byteV b.N 2) (mn (mx t 0) 1000)) * 256 + blend (byteV a.N 1) (byteV b.N 1) (mn (mx t 0) 1000)) * 256 + blend (byteV a.N 0) (byteV b.N 0) (mn (mx t 0) 1000)⟩, lim_add 5 fun k => ?_, lim_add 5 fun k => ?_⟩
      · rw [show (24 : Int) = 8 * ((3 : Nat) : Int) by omega, step_anim _ _ _ _ (k + 4) _ 3 (by omega) (by omega), show 8 * (((3 : Nat) : Int) - 1) = 8 * ((2 : Nat) : Int) by omega, step_anim _ _ _ _ (k + 3) _ 2 (by omega) (by omega),
          show 8 * (((2 : Nat) : Int) - 1) = 8 * ((1 : Nat) : Int) by omega, step_anim _ _ _ _ (k + 2) _ 1 (by omega) (by omega), show 8 * (((1 : Nat) : Int) - 1) = 8 * ((0 : Nat) : Int) by omega, step_anim _ _ _ _ (k + 1) _ 0 (by omega) (by omega), anim_Mix_l0, if_neg (by decide)]
      · rw [show (3 : Int) = ((3 : Nat) : Int) by omega, step_ref _ _ _ _ (k + 4) _ 3 (by omega) (by omega), show ((3 : Nat) : Int) - 1 = ((2 : Nat) : Int) by omega, step_ref _ _ _ _ (k + 3) _ 2 (by omega) (by omega),
          show ((2 : Nat) : Int) - 1 = ((1 : Nat) : Int) by omega, step_ref _ _ _ _ (k + 2) _ 1 (by omega) (by omega), show ((1 : Nat) : Int) - 1 = ((0 : Nat) : Int) by omega, step_ref _ _ _ _ (k + 1) _ 0 (by omega) (by omega), clerestoryref2_MixOf_l0, if_neg (by decide)]
    · rw [if_neg h2, if_neg h2]
      split
      · exact ⟨a, rfl, rfl⟩
      · exact ⟨b, rfl, rfl⟩
theorem stepped : clerestorylaw2_stepped = some true := by
  rfl
theorem pureAnimMixes : PureAnimMixes := by
  intro a b t _ _ _
  obtain ⟨r, h1, h2⟩ := mix_eq a b t
  unfold clerestorylaw2_AnimMixes
  rw [stepped, h1, h2]
  simp [clerestorylaw2_AnimMixes_j1]
end Go.Proofs.YtgfcmhomndofaaaBv
