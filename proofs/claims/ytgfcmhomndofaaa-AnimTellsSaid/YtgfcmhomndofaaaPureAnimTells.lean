/- The law of what animations tell, over plain values. No program is in sight. -/
import Derived.Test.YtgfcmhomndofaaaShAnimTells
import Derived.Test.YtgfcmhomndofaaaBv23
namespace Go.Proofs.YtgfcmhomndofaaaBv
open Go
set_option linter.unusedSimpArgs false
set_option linter.unusedVariables false
def blend (a b t : Int) : Int := a + (b - a) * t / 1000
def byteV (n : Int) (i : Nat) : Int := n % 4294967296 / 2 ^ (8 * i) % 256
theorem byte_in (n : Int) (i : Nat) : 0 ≤ byteV n i ∧ byteV n i ≤ 255 := by unfold byteV; omega
theorem floor_lo (n : Int) : n.tdiv 1000 = n / 1000 + (if n.tmod 1000 < 0 then 1 else 0) := by
  rcases Int.le_total 0 n with h | h
  · rw [Int.tdiv_eq_ediv_of_nonneg h, Int.tmod_eq_emod_of_nonneg h, if_neg (by omega)]; omega
  · obtain ⟨m, rfl⟩ : ∃ m, n = -m := ⟨-n, by omega⟩
    have hm : 0 ≤ m := by omega
    rw [Int.neg_tdiv, Int.neg_tmod, Int.tdiv_eq_ediv_of_nonneg hm, Int.tmod_eq_emod_of_nonneg hm]
    split <;> omega
theorem tmod_eq (n : Int) : n.tmod 1000 = n - 1000 * n.tdiv 1000 := by have := Int.mul_tdiv_add_tmod n 1000; omega
theorem mul_in {x t m : Int} (hx : -m ≤ x ∧ x ≤ m) (ht : 0 ≤ t ∧ t ≤ 1000) (hm : 0 ≤ m) : -(m * 1000) ≤ x * t ∧ x * t ≤ m * 1000 := by
  have h1 : x * t ≤ m * t := Int.mul_le_mul_of_nonneg_right hx.2 ht.1
  have h2 : m * t ≤ m * 1000 := Int.mul_le_mul_of_nonneg_left ht.2 hm
  have h3 : -m * t ≤ x * t := Int.mul_le_mul_of_nonneg_right hx.1 ht.1
  rw [Int.neg_mul] at h3
  omega
theorem blend_in {a b t lo hi : Int} (ha : lo ≤ a ∧ a ≤ hi) (hb : lo ≤ b ∧ b ≤ hi) (ht : 0 ≤ t ∧ t ≤ 1000) : lo ≤ blend a b t ∧ blend a b t ≤ hi := by
  unfold blend
  rcases Int.le_total a b with h | h
  · have h1 : 0 ≤ (b - a) * t := Int.mul_nonneg (by omega) ht.1
    have h2 : (b - a) * t ≤ (b - a) * 1000 := Int.mul_le_mul_of_nonneg_left ht.2 (by omega)
    omega
  · have h1 : 0 ≤ (a - b) * t := Int.mul_nonneg (by omega) ht.1
    have h2 : (a - b) * t ≤ (a - b) * 1000 := Int.mul_le_mul_of_nonneg_left ht.2 (by omega)
    have h3 : (b - a) * t = -((a - b) * t) := by rw [← Int.neg_mul]; congr 1; omega
    omega
theorem and255 {x : Int} (h : 0 ≤ x ∧ x < 4294967296) : bitsV .and .u32 x 255 = x % 256 := by
  obtain ⟨m, rfl⟩ : ∃ m : Nat, x = m := ⟨x.toNat, by omega⟩
  show wr .u32 (((BitVec.ofInt 32 (m : Int) &&& BitVec.ofInt 32 255).toNat : Nat) : Int) = _
  rw [BitVec.toNat_and]
  have e1 : (BitVec.ofInt 32 (m : Int)).toNat = m := by simp [BitVec.toNat_ofInt]; omega
  have e2 : (BitVec.ofInt 32 255).toNat = 2 ^ 8 - 1 := by decide
  rw [e1, e2, Nat.and_two_pow_sub_one_eq_mod, wr_u32]
  omega
theorem or256 {m x : Int} (h : 0 ≤ m ∧ m < 4294967296) (hx : 0 ≤ x ∧ x ≤ 255) : bitsV .or .i64 (m * 256) x = m * 256 + x := by
  obtain ⟨a, rfl⟩ : ∃ a : Nat, m = a := ⟨m.toNat, by omega⟩
  obtain ⟨b, rfl⟩ : ∃ b : Nat, x = b := ⟨x.toNat, by omega⟩
  show wi (((BitVec.ofInt 64 ((a : Int) * 256) ||| BitVec.ofInt 64 (b : Int)).toNat : Nat) : Int) = _
  rw [BitVec.toNat_or]
  have e1 : (BitVec.ofInt 64 ((a : Int) * 256)).toNat = a <<< 8 := by rw [Nat.shiftLeft_eq]; simp [BitVec.toNat_ofInt]; omega
  have e2 : (BitVec.ofInt 64 (b : Int)).toNat = b := by simp [BitVec.toNat_ofInt]; omega
  rw [e1, e2, ← Nat.shiftLeft_add_eq_or_of_lt (by omega), Nat.shiftLeft_eq, wi_id (by omega) (by omega)]
  omega

theorem part_eq {a b t : Int} (ha : -16777216 ≤ a ∧ a ≤ 16777216) (hb : -16777216 ≤ b ∧ b ≤ 16777216) (ht : 0 ≤ t ∧ t ≤ 1000) : anim_part a b t = blend a b t := by
  have hm := mul_in (x := b - a) (m := 33554432) (by omega) ht (by omega)
  have hbl := blend_in ha hb ht
  have hfl := floor_lo ((b - a) * t)
  have hq : -33554433 ≤ ((b - a) * t).tdiv 1000 ∧ ((b - a) * t).tdiv 1000 ≤ 33554433 := by split at hfl <;> omega
  unfold anim_part anim_part_j1
  rw [wi_id (n := b - a) (by omega) (by omega), wi_id (n := (b - a) * t) (by omega) (by omega), wi_id (n := ((b - a) * t).tdiv 1000) (by omega) (by omega), wi_id (n := ((b - a) * t).tdiv 1000 - 1) (by omega) (by omega),
    wi_id (n := a + (((b - a) * t).tdiv 1000 - 1)) (by omega) (by omega), wi_id (n := a + ((b - a) * t).tdiv 1000) (by omega) (by omega)]
  unfold blend
  by_cases hlt : ((b - a) * t).tmod 1000 < 0
  · rw [if_pos (by simpa using hlt)]; rw [if_pos hlt] at hfl; omega
  · rw [if_neg (by simpa using hlt)]; rw [if_neg hlt] at hfl; omega
theorem whole_eq {n : Int} (hn : -1000000000000 ≤ n ∧ n ≤ 1000000000000) : clerestoryref2_Whole n 1000 = some (n / 1000) := by
  have hfl := floor_lo n
  have htm := tmod_eq n
  have hq : -1000000001 ≤ n.tdiv 1000 ∧ n.tdiv 1000 ≤ 1000000001 := by split at hfl <;> omega
  unfold clerestoryref2_Whole clerestoryref2_Whole_j1
  rw [quoq (by decide), Option.bind_some, show IntKind.i64.wrap (n.tdiv 1000) = n.tdiv 1000 from wi_id (by omega) (by omega), wi_id (n := n.tdiv 1000 * 1000) (by omega) (by omega), wi_id (n := n.tdiv 1000 - 1) (by omega) (by omega)]
  by_cases hlt : n.tmod 1000 < 0
  · rw [if_pos (by simp only [decide_eq_true_eq]; omega)]; rw [if_pos hlt] at hfl; congr 1; omega
  · rw [if_neg (by simp only [decide_eq_true_eq]; omega)]; rw [if_neg hlt] at hfl; congr 1; omega
theorem shr_u32 {n : Int} (i : Nat) (hi : i < 4) : shr .u32 (wr .u32 n) (8 * i) = n % 4294967296 / 2 ^ (8 * i) := by
  unfold shr
  rw [wr_u32, show min (8 * i) IntKind.u32.bits = 8 * i from Nat.min_eq_left (by show 8 * i ≤ 32; omega)]
  exact Int.fdiv_eq_ediv_of_nonneg _ (by have : (0 : Int) < 2 ^ (8 * i) := Int.pow_pos (by decide); omega)
theorem div_range (n : Int) (i : Nat) : 0 ≤ n % 4294967296 / 2 ^ (8 * i) ∧ n % 4294967296 / 2 ^ (8 * i) < 4294967296 := by
  have hp : (0 : Int) < 2 ^ (8 * i) := Int.pow_pos (by decide)
  have h0 : 0 ≤ n % 4294967296 := by omega
  exact ⟨Int.ediv_nonneg h0 (by omega), by have := Int.ediv_le_self (b := 2 ^ (8 * i)) h0; omega⟩
theorem byte_eq (n : Int) (i : Nat) (hi : i < 4) : clerestoryref2_Byte n (i : Int) = some (byteV n i) := by
  have hr := div_range n i
  have hb := byte_in n i
  unfold clerestoryref2_Byte
  rw [wi_id (n := 8 * (i : Int)) (by omega) (by omega), wr_u64, show 8 * (i : Int) % 18446744073709551616 = ((8 * i : Nat) : Int) by omega, shrq (by omega), Int.toNat_natCast, Option.bind_some, shr_u32 i hi, wr_i64, wi_id (by omega) (by omega),
    Int.tmod_eq_emod_of_nonneg hr.1]
  rfl
theorem step_anim (a b : TVal) (t : Int) (K : Int → Option TVal) (k : Nat) (n : Int) (i : Nat) (hi : i < 4) (hn : 0 ≤ n ∧ n < 16777216) :
    anim_Mix_l0 a b t K (k + 1) n (8 * (i : Int)) = anim_Mix_l0 a b t K k (n * 256 + blend (byteV a.N i) (byteV b.N i) (mn (mx t 0) 1000)) (8 * ((i : Int) - 1)) := by
  have hT : 0 ≤ mn (mx t 0) 1000 ∧ mn (mx t 0) 1000 ≤ 1000 := by unfold mn mx; split <;> split <;> omega
  have ba := byte_in a.N i
  have bb := byte_in b.N i
  have bl := blend_in (lo := 0) (hi := 255) ba bb hT
  rw [anim_Mix_l0]
  rw [if_pos (by simp only [decide_eq_true_eq]; omega), show 8 * (i : Int) = ((8 * i : Nat) : Int) by omega, shrq (by omega), shrq (by omega), Int.toNat_natCast, Option.bind_some, Option.bind_some, shr_u32 i hi, shr_u32 i hi, letIn_eq,
    and255 (div_range _ _), and255 (div_range _ _)]
  rw [show a.N % 4294967296 / 2 ^ (8 * i) % 256 = byteV a.N i from rfl, show b.N % 4294967296 / 2 ^ (8 * i) % 256 = byteV b.N i from rfl, wr_i64, wr_i64, wi_id (by omega) (by omega), wi_id (by omega) (by omega), part_eq (by omega) (by omega) hT]
  rw [show shl .i64 n 8 = n * 256 from by
    show IntKind.i64.wrap (n * 2 ^ (min 8 IntKind.i64.bits)) = n * 256
    exact wi_id (n := n * 256) (by omega) (by omega), or256 (by omega) bl, wi_id (by omega) (by omega)]
  congr 1
  omega
theorem step_ref (a b : TVal) (t : Int) (K : Int → Option TVal) (k : Nat) (n : Int) (i : Nat) (hi : i < 4) (hn : 0 ≤ n ∧ n < 16777216) :
    clerestoryref2_MixOf_l0 a b t K (k + 1) n (i : Int) = clerestoryref2_MixOf_l0 a b t K k (n * 256 + blend (byteV a.N i) (byteV b.N i) (mn (mx t 0) 1000)) ((i : Int) - 1) := by
  have hT : 0 ≤ mn (mx t 0) 1000 ∧ mn (mx t 0) 1000 ≤ 1000 := by unfold mn mx; split <;> split <;> omega
  have eT : mx 0 (mn t 1000) = mn (mx t 0) 1000 := by unfold mn mx; (repeat' split) <;> omega
  have ba := byte_in a.N i
  have bb := byte_in b.N i
  have bl := blend_in (lo := 0) (hi := 255) ba bb hT
  have hm := mul_in (x := byteV b.N i - byteV a.N i) (m := 255) (by omega) hT (by omega)
  rw [clerestoryref2_MixOf_l0]
  rw [if_pos (by simp only [decide_eq_true_eq]; omega), byte_eq _ i hi, byte_eq _ i hi, Option.bind_some, Option.bind_some, Option.bind_some, eT, wi_id (n := byteV b.N i - byteV a.N i) (by omega) (by omega), wi_id (n := (byteV b.N i - byteV a.N i) * _) (by omega) (by omega), whole_eq (by omega),
    Option.bind_some, wi_id (n := 256 * n) (by omega) (by omega), wi_id (n := 256 * n + byteV a.N i) (by omega) (by omega), wi_id (n := 256 * n + byteV a.N i + _) (by unfold blend at bl; omega) (by unfold blend at bl; omega), wi_id (n := (i : Int) - 1) (by omega) (by omega)]
  congr 1
  unfold blend
  omega
theorem mix_eq (a b : TVal) (t : Int) : ∃ r, anim_Mix a b t = some r ∧ clerestoryref2_MixOf a b t = some r := by
  have hT : 0 ≤ mn (mx t 0) 1000 ∧ mn (mx t 0) 1000 ≤ 1000 := by unfold mn mx; split <;> split <;> omega
  have eT : mx 0 (mn t 1000) = mn (mx t 0) 1000 := by unfold mn mx; (repeat' split) <;> omega
  unfold anim_Mix clerestoryref2_MixOf
  rw [eT]
  have c1 : (decide (a.Kind = b.Kind) && (decide (a.Kind = 2) || decide (a.Kind = 3) || decide (a.Kind = 4))) = (decide (a.Kind = b.Kind) && anim_in a.Kind 2 4) := by
    congr 1
    unfold anim_in
    rw [Bool.eq_iff_iff]
    simp
    omega
  rw [c1]
  cases h1 : (decide (a.Kind = b.Kind) && anim_in a.Kind 2 4) with
  | true =>
    have hc : ∀ n : Int, clerestoryref2_Cut n = anim_cut n := fun n => by unfold clerestoryref2_Cut anim_cut mn mx; (repeat' split) <;> omega
    have hi : ∀ n : Int, -16777216 ≤ anim_cut n ∧ anim_cut n ≤ 16777216 := fun n => by unfold anim_cut mn mx; split <;> split <;> omega
    have ha := hi a.N
    have hb := hi b.N
    have hm := mul_in (x := anim_cut b.N - anim_cut a.N) (m := 33554432) (by omega) hT (by omega)
    have bl := blend_in ha hb hT
    rw [if_pos rfl, if_pos rfl, hc, hc, letIn_eq, wi_id (n := anim_cut b.N - anim_cut a.N) (by omega) (by omega), wi_id (n := (anim_cut b.N - anim_cut a.N) * _) (by omega) (by omega), whole_eq (by omega), Option.bind_some, part_eq ha hb hT]
    refine ⟨_, rfl, ?_⟩
    rw [wi_id (by unfold blend at bl; omega) (by unfold blend at bl; omega)]
    rfl
  | false =>
    simp only [Bool.false_eq_true, if_false]
    by_cases h2 : (decide (a.Kind = 5) && decide (b.Kind = 5)) = true
    · rw [if_pos h2, if_pos h2]
      have r : ∀ i, 0 ≤ blend (byteV a.N i) (byteV b.N i) (mn (mx t 0) 1000) ∧ blend (byteV a.N i) (byteV b.N i) (mn (mx t 0) 1000) ≤ 255 := fun i => blend_in (byte_in _ _) (byte_in _ _) hT
      have r3 := r 3
      have r2 := r 2
      have r1 := r 1
      have r0 := r 0
      refine ⟨⟨5, (((0 * 256 + blend (byteV a.N 3) (byteV b.N 3) (mn (mx t 0) 1000)) * 256 + blend (byteV a.N 2) (byteV b.N 2) (mn (mx t 0) 1000)) * 256 + blend (byteV a.N 1) (byteV b.N 1) (mn (mx t 0) 1000)) * 256 + blend (byteV a.N 0) (byteV b.N 0) (mn (mx t 0) 1000)⟩, lim_add 5 fun k => ?_, lim_add 5 fun k => ?_⟩
      · rw [show (24 : Int) = 8 * ((3 : Nat) : Int) by omega, step_anim _ _ _ _ (k + 4) _ 3 (by omega) (by omega), show 8 * (((3 : Nat) : Int) - 1) = 8 * ((2 : Nat) : Int) by omega, step_anim _ _ _ _ (k + 3) _ 2 (by omega) (by omega),
          show 8 * (((2 : Nat) : Int) - 1) = 8 * ((1 : Nat) : Int) by omega, step_anim _ _ _ _ (k + 2) _ 1 (by omega) (by omega), show 8 * (((1 : Nat) : Int) - 1) = 8 * ((0 : Nat) : Int) by omega, step_anim _ _ _ _ (k + 1) _ 0 (by omega) (by omega), anim_Mix_l0, if_neg (by decide)]
      · rw [show (3 : Int) = ((3 : Nat) : Int) by omega, step_ref _ _ _ _ (k + 4) _ 3 (by omega) (by omega), show ((3 : Nat) : Int) - 1 = ((2 : Nat) : Int) by omega, step_ref _ _ _ _ (k + 3) _ 2 (by omega) (by omega),
          show ((2 : Nat) : Int) - 1 = ((1 : Nat) : Int) by omega, step_ref _ _ _ _ (k + 2) _ 1 (by omega) (by omega), show ((1 : Nat) : Int) - 1 = ((0 : Nat) : Int) by omega, step_ref _ _ _ _ (k + 1) _ 0 (by omega) (by omega), clerestoryref2_MixOf_l0, if_neg (by decide)]
    · rw [if_neg h2, if_neg h2]
      split
      · exact ⟨a, rfl, rfl⟩
      · exact ⟨b, rfl, rfl⟩
/-- the curve's polynomial, times 4096 to the third -/
def bp (a b k : Int) : Int := 3 * (4096 - k) * (4096 - k) * k * a + 3 * (4096 - k) * k * k * b + k * k * k * 1000
def bz (a b k : Int) : Int := (bp a b k).tdiv 68719476736

theorem bp_rise {a b k : Int} (ha : 0 ≤ a ∧ a ≤ 1000) (hb : 0 ≤ b ∧ b ≤ 1000) (hk : 0 ≤ k ∧ k < 4096) : bp a b k ≤ bp a b (k + 1) := by
  have e : 1000000 * (bp a b (k + 1) - bp a b k) = (1000 - a) * (1000 - b) * (1000 * (3 * (k * k) + 3 * k + 1)) + a * (1000 - b) * (1000 * (3 * ((4096 - k - k - 1) * (4096 - k - k - 1)) + 1)) +
      (1000 - a) * b * (1000 * (6 * ((4096 - k) * k) + 3 * (4096 - k) - 3 * k - 2)) + a * b * (1000 * (3 * ((4096 - k) * (4096 - k)) - 3 * (4096 - k) + 1)) := by
    unfold bp; grind
  have sq : ∀ x : Int, 0 ≤ x * x := fun x => by
    rcases Int.le_total 0 x with h | h
    · exact Int.mul_nonneg h h
    · have := Int.mul_nonneg (Int.neg_nonneg_of_nonpos h) (Int.neg_nonneg_of_nonpos h); rwa [Int.neg_mul_neg] at this
  have p1 : 0 ≤ (1000 - a) * (1000 - b) := Int.mul_nonneg (by omega) (by omega)
  have p2 : 0 ≤ a * (1000 - b) := Int.mul_nonneg (by omega) (by omega)
  have p3 : 0 ≤ (1000 - a) * b := Int.mul_nonneg (by omega) (by omega)
  have p4 : 0 ≤ a * b := Int.mul_nonneg (by omega) (by omega)
  have q1 := Int.mul_nonneg p1 (show 0 ≤ 1000 * (3 * (k * k) + 3 * k + 1) by have := sq k; omega)
  have q2 := Int.mul_nonneg p2 (show 0 ≤ 1000 * (3 * ((4096 - k - k - 1) * (4096 - k - k - 1)) + 1) by have := sq (4096 - k - k - 1); omega)
  have q3 := Int.mul_nonneg p3 (show 0 ≤ 1000 * (6 * ((4096 - k) * k) + 3 * (4096 - k) - 3 * k - 2) by
    have : 1 * k ≤ (4096 - k) * k := Int.mul_le_mul_of_nonneg_right (by omega) hk.1
    omega)
  have q4 := Int.mul_nonneg p4 (show 0 ≤ 1000 * (3 * ((4096 - k) * (4096 - k)) - 3 * (4096 - k) + 1) by
    have : 1 * (4096 - k) ≤ (4096 - k) * (4096 - k) := Int.mul_le_mul_of_nonneg_right (by omega) (by omega)
    omega)
  omega

theorem bz_rise {a b k : Int} (ha : 0 ≤ a ∧ a ≤ 1000) (hb : 0 ≤ b ∧ b ≤ 1000) (hk : 0 ≤ k ∧ k < 4096) : bz a b k ≤ bz a b (k + 1) := Int.tdiv_le_tdiv (by decide) (bp_rise ha hb hk)

theorem bz_mono {a b : Int} (ha : 0 ≤ a ∧ a ≤ 1000) (hb : 0 ≤ b ∧ b ≤ 1000) {j k : Int} (hj : 0 ≤ j) (hjk : j ≤ k) (hk : k ≤ 4096) : bz a b j ≤ bz a b k := by
  obtain ⟨d, rfl⟩ : ∃ d : Nat, k = j + d := ⟨(k - j).toNat, by omega⟩
  induction d with
  | zero => simp
  | succ d ih =>
    have h1 := ih (by omega) (by omega)
    have h2 := bz_rise (k := j + d) ha hb (by omega)
    have : j + ((d + 1 : Nat) : Int) = j + d + 1 := by omega
    rw [this]
    omega

theorem bz_top (a b : Int) : bz a b 4096 = 1000 := by
  have : bp a b 4096 = 68719476736000 := by unfold bp; grind
  unfold bz; rw [this]; decide

/-- the least place where the curve reaches a time -/
def Least (a b t K : Int) : Prop := (0 ≤ K ∧ K ≤ 4096) ∧ t ≤ bz a b K ∧ ∀ j, 0 ≤ j → j < K → bz a b j < t

theorem least_exists (a b t : Int) (ht : t ≤ 1000) : ∃ K, Least a b t K := by
  obtain ⟨k, h1, h2⟩ := exists_least (p := fun k : Nat => k ≤ 4096 ∧ t ≤ bz a b k) ⟨4096, Nat.le_refl _, by
    show t ≤ bz a b 4096
    rw [bz_top]; exact ht⟩
  refine ⟨k, ⟨by omega, by omega⟩, h1.2, fun j hj hlt => Int.not_le.1 fun h => ?_⟩
  have := h2 j.toNat ⟨by omega, by rw [Int.toNat_of_nonneg hj]; exact h⟩
  omega

/-- the steps of the polynomial stay small -/
theorem bend_in {a b k : Int} (ha : 0 ≤ a ∧ a ≤ 1000) (hb : 0 ≤ b ∧ b ≤ 1000) (hk : 0 ≤ k ∧ k ≤ 4096) :
    let j := 4096 - k
    (0 ≤ 3 * j ∧ 3 * j ≤ 12288) ∧ (0 ≤ 3 * j * j ∧ 3 * j * j ≤ 50331648) ∧ (0 ≤ 3 * j * j * k ∧ 3 * j * j * k ≤ 206158430208) ∧ (0 ≤ 3 * j * j * k * a ∧ 3 * j * j * k * a ≤ 206158430208000) ∧
    (0 ≤ 3 * j * k ∧ 3 * j * k ≤ 50331648) ∧ (0 ≤ 3 * j * k * k ∧ 3 * j * k * k ≤ 206158430208) ∧ (0 ≤ 3 * j * k * k * b ∧ 3 * j * k * k * b ≤ 206158430208000) ∧
    (0 ≤ k * k ∧ k * k ≤ 16777216) ∧ (0 ≤ k * k * k ∧ k * k * k ≤ 68719476736) ∧ (0 ≤ bp a b k ∧ bp a b k ≤ 481036337152000) := by
  intro j
  have step : ∀ {x y m n : Int}, (0 ≤ x ∧ x ≤ m) → (0 ≤ y ∧ y ≤ n) → 0 ≤ x * y ∧ x * y ≤ m * n := fun hx hy => ⟨Int.mul_nonneg hx.1 hy.1, Int.mul_le_mul hx.2 hy.2 hy.1 (Int.le_trans hx.1 hx.2)⟩
  have hj : 0 ≤ j ∧ j ≤ 4096 := by show 0 ≤ 4096 - k ∧ 4096 - k ≤ 4096; omega
  have h1 : 0 ≤ 3 * j ∧ 3 * j ≤ 12288 := by omega
  have h2 := step h1 hj
  have h3 := step h2 hk
  have h4 := step h3 ha
  have h5 := step h1 hk
  have h6 := step h5 hk
  have h7 := step h6 hb
  have h8 := step hk hk
  have h9 := step h8 hk
  refine ⟨h1, h2, h3, h4, h5, h6, h7, h8, h9, ?_⟩
  have : bp a b k = 3 * j * j * k * a + 3 * j * k * k * b + k * k * k * 1000 := rfl
  rw [this]
  omega

/-- the polynomial as the machine makes it -/
theorem bend_wrap {a b k : Int} (ha : 0 ≤ a ∧ a ≤ 1000) (hb : 0 ≤ b ∧ b ≤ 1000) (hk : 0 ≤ k ∧ k ≤ 4096) :
    let W := wi
    W ((W (W (W (W (W (W (3 * W (4096 - k)) * W (4096 - k)) * k) * a) + W (W (W (W (3 * W (4096 - k)) * k) * k) * b)) + W (W (W (k * k) * k) * 1000))).tdiv 68719476736) = bz a b k := by
  intro W
  obtain ⟨h1, h2, h3, h4, h5, h6, h7, h8, h9, h10⟩ := bend_in ha hb hk
  have e : ∀ {n : Int}, (0 ≤ n ∧ n ≤ 481036337152000) → W n = n := fun h => wi_id (by omega) (by omega)
  rw [e (n := 4096 - k) (by omega), e (n := 3 * (4096 - k)) (by omega), e (n := 3 * (4096 - k) * (4096 - k)) (by omega), e (n := 3 * (4096 - k) * (4096 - k) * k) (by omega), e (n := 3 * (4096 - k) * (4096 - k) * k * a) (by omega),
    e (n := 3 * (4096 - k) * k) (by omega), e (n := 3 * (4096 - k) * k * k) (by omega), e (n := 3 * (4096 - k) * k * k * b) (by omega), e (n := k * k) (by omega), e (n := k * k * k) (by omega), e (n := k * k * k * 1000) (by omega),
    e (n := 3 * (4096 - k) * (4096 - k) * k * a + 3 * (4096 - k) * k * k * b) (by omega)]
  have hbp : 3 * (4096 - k) * (4096 - k) * k * a + 3 * (4096 - k) * k * k * b + k * k * k * 1000 = bp a b k := rfl
  rw [hbp, e h10]
  have : 0 ≤ bz a b k ∧ bz a b k ≤ 1000000 := by
    unfold bz
    have h := Int.tdiv_le_tdiv (c := 68719476736) (by decide) h10.2
    have h' := Int.tdiv_nonneg (b := 68719476736) h10.1 (by decide)
    have : (481036337152000 : Int).tdiv 68719476736 = 7000 := by decide
    omega
  exact e (by unfold bz at this; omega)

/-! ### easings -/
theorem bend_eq {a b k : Int} (ha : 0 ≤ a ∧ a ≤ 1000) (hb : 0 ≤ b ∧ b ≤ 1000) (hk : 0 ≤ k ∧ k ≤ 4096) : anim_bend a b k = bz a b k := bend_wrap ha hb hk
theorem bend_same (a b k : Int) : clerestoryref2_Bend a b k = anim_bend a b k := rfl
def Zero (e : TSEase) : Prop := e.Curve.a0 = 0 ∧ e.Curve.a1 = 0 ∧ e.Curve.a2 = 0 ∧ e.Curve.a3 = 0
def Within (e : TSEase) : Prop := (0 ≤ e.Curve.a0 ∧ e.Curve.a0 ≤ 1000) ∧ (0 ≤ e.Curve.a1 ∧ e.Curve.a1 ≤ 1000) ∧ (0 ≤ e.Curve.a2 ∧ e.Curve.a2 ≤ 1000) ∧ (0 ≤ e.Curve.a3 ∧ e.Curve.a3 ≤ 1000)
instance (e : TSEase) : Decidable (Zero e) := by unfold Zero; infer_instance
instance (e : TSEase) : Decidable (Within e) := by unfold Within; infer_instance
def EaseOk (e : TSEase) : Prop := (e.Kind = 1 ∧ Zero e ∧ e.N = 0) ∨ (e.Kind = 3 ∧ Zero e ∧ 1 ≤ e.N ∧ e.N ≤ 1000) ∨ (e.Kind = 2 ∧ Within e ∧ e.N = 0)
instance (e : TSEase) : Decidable (EaseOk e) := by unfold EaseOk; infer_instance
theorem easing_loop (e : TSEase) (K : Unit → Option Bool) : (lim fun kk => anim_easing_l0 e K kk 0) = if Within e then K () else some false := by
  refine lim_add 5 fun k => ?_
  have st : ∀ (m : Nat) (i x : Int), i < 4 → at? [e.Curve.a0, e.Curve.a1, e.Curve.a2, e.Curve.a3] i = some x → anim_easing_l0 e K (m + 1) i = if 0 ≤ x ∧ x ≤ 1000 then anim_easing_l0 e K m (wi (i + 1)) else some false := by
    intro m i x hi hx
    rw [anim_easing_l0, if_pos (by simpa using hi), hx, Option.bind_some]
    unfold anim_in
    by_cases h : 0 ≤ x ∧ x ≤ 1000
    · simp [h]
    · rw [if_neg h, if_pos (by simp; omega)]
  rw [st (k + 4) 0 e.Curve.a0 (by decide) rfl, show wi (0 + 1) = 1 from rfl, st (k + 3) 1 e.Curve.a1 (by decide) rfl, show wi (1 + 1) = 2 from rfl, st (k + 2) 2 e.Curve.a2 (by decide) rfl, show wi (2 + 1) = 3 from rfl,
    st (k + 1) 3 e.Curve.a3 (by decide) rfl, show wi (3 + 1) = 4 from rfl, show anim_easing_l0 e K (k + 1) 4 = K () from by rw [anim_easing_l0, if_neg (by decide)]]
  by_cases h0 : 0 ≤ e.Curve.a0 ∧ e.Curve.a0 ≤ 1000
  · by_cases h1 : 0 ≤ e.Curve.a1 ∧ e.Curve.a1 ≤ 1000
    · by_cases h2 : 0 ≤ e.Curve.a2 ∧ e.Curve.a2 ≤ 1000
      · by_cases h3 : 0 ≤ e.Curve.a3 ∧ e.Curve.a3 ≤ 1000
        · rw [if_pos h0, if_pos h1, if_pos h2, if_pos h3, if_pos (show Within e from ⟨h0, h1, h2, h3⟩)]
        · rw [if_pos h0, if_pos h1, if_pos h2, if_neg h3, if_neg fun (h : Within e) => h3 h.2.2.2]
      · rw [if_pos h0, if_pos h1, if_neg h2, if_neg fun (h : Within e) => h2 h.2.2.1]
    · rw [if_pos h0, if_neg h1, if_neg fun (h : Within e) => h1 h.2.1]
  · rw [if_neg h0, if_neg fun (h : Within e) => h0 h.1]
theorem may_loop (e : TSEase) (K : Unit → Option Bool) : (lim fun kk => clerestoryref2_EaseMay_l0 e K kk 0) = if Within e then K () else some false := by
  refine lim_add 5 fun k => ?_
  have st : ∀ (m : Nat) (i x : Int), i < 4 → at? [e.Curve.a0, e.Curve.a1, e.Curve.a2, e.Curve.a3] i = some x → clerestoryref2_EaseMay_l0 e K (m + 1) i = if 0 ≤ x ∧ x ≤ 1000 then clerestoryref2_EaseMay_l0 e K m (wi (i + 1)) else some false := by
    intro m i x hi hx
    rw [clerestoryref2_EaseMay_l0, if_pos (by simpa using hi), hx, Option.bind_some, Option.bind_some]
    unfold clerestoryref2_EaseMay_j2
    by_cases h : 0 ≤ x ∧ x ≤ 1000
    · rw [if_neg (by simp; omega), if_neg (by simp; omega), if_pos h]
    · rw [if_neg h]
      by_cases h2 : x < 0
      · rw [if_pos (by simpa using h2), if_pos rfl]
      · rw [if_neg (by simpa using h2), if_pos (by simp; omega)]
  rw [st (k + 4) 0 e.Curve.a0 (by decide) rfl, show wi (0 + 1) = 1 from rfl, st (k + 3) 1 e.Curve.a1 (by decide) rfl, show wi (1 + 1) = 2 from rfl, st (k + 2) 2 e.Curve.a2 (by decide) rfl, show wi (2 + 1) = 3 from rfl,
    st (k + 1) 3 e.Curve.a3 (by decide) rfl, show wi (3 + 1) = 4 from rfl, show clerestoryref2_EaseMay_l0 e K (k + 1) 4 = K () from by rw [clerestoryref2_EaseMay_l0, if_neg (by decide)]]
  by_cases h0 : 0 ≤ e.Curve.a0 ∧ e.Curve.a0 ≤ 1000
  · by_cases h1 : 0 ≤ e.Curve.a1 ∧ e.Curve.a1 ≤ 1000
    · by_cases h2 : 0 ≤ e.Curve.a2 ∧ e.Curve.a2 ≤ 1000
      · by_cases h3 : 0 ≤ e.Curve.a3 ∧ e.Curve.a3 ≤ 1000
        · rw [if_pos h0, if_pos h1, if_pos h2, if_pos h3, if_pos (show Within e from ⟨h0, h1, h2, h3⟩)]
        · rw [if_pos h0, if_pos h1, if_pos h2, if_neg h3, if_neg fun (h : Within e) => h3 h.2.2.2]
      · rw [if_pos h0, if_pos h1, if_neg h2, if_neg fun (h : Within e) => h2 h.2.2.1]
    · rw [if_pos h0, if_neg h1, if_neg fun (h : Within e) => h1 h.2.1]
  · rw [if_neg h0, if_neg fun (h : Within e) => h0 h.1]
theorem easing_eq (e : TSEase) : anim_easing e = some (decide (EaseOk e)) := by
  unfold anim_easing
  rw [easing_loop]
  by_cases h1 : e.Kind = 1
  · rw [if_pos (by simpa using h1), letIn_eq]
    congr 1
    rw [Bool.eq_iff_iff]
    simp [EaseOk, Zero, h1]
    omega
  · rw [if_neg (by simpa using h1)]
    by_cases h3 : e.Kind = 3
    · rw [if_pos (by simpa using h3)]
      congr 1
      rw [Bool.eq_iff_iff]
      simp [EaseOk, Zero, h3, anim_in]
      omega
    · rw [if_neg (by simpa using h3)]
      by_cases h2 : e.Kind = 2
      · rw [if_pos (by simpa using h2)]
        by_cases hw : Within e
        · rw [if_pos hw]; congr 1; simp [EaseOk, h2, hw]
        · rw [if_neg hw]; congr 1; simp [EaseOk, h2, hw]
      · rw [if_neg (by simpa using h2)]
        congr 1; simp [EaseOk, h1, h2, h3]
theorem may_eq (e : TSEase) : clerestoryref2_EaseMay e = some (decide (EaseOk e)) := by
  unfold clerestoryref2_EaseMay
  rw [may_loop, letIn_eq]
  by_cases h2 : e.Kind = 2
  · rw [if_pos (by simpa using h2)]
    by_cases hw : Within e
    · rw [if_pos hw]; congr 1; simp [EaseOk, h2, hw]
    · rw [if_neg hw]; congr 1; simp [EaseOk, h2, hw]
  · rw [if_neg (by simpa using h2)]
    by_cases hz : Zero e
    · rw [if_neg (by simpa [Zero] using hz)]
      by_cases h3 : e.Kind = 3
      · rw [if_pos (by simpa using h3)]
        congr 1
        rw [Bool.eq_iff_iff]
        simp [EaseOk, h3, hz]
      · rw [if_neg (by simpa using h3)]
        congr 1
        rw [Bool.eq_iff_iff]
        simp [EaseOk, h3, h2, hz]
    · rw [if_pos (by simp only [Zero] at hz; simp; omega)]
      congr 1; simp [EaseOk, h2, hz]
theorem eased_loop (e : TSEase) (t P : Int) (K : Int → Option Int) (hw : Within e) (hL : Least e.Curve.a0 e.Curve.a2 t P) : ∀ (d : Nat) (low high : Int), 0 ≤ low → low ≤ P → P ≤ high → high ≤ 4096 → high - low ≤ d → ∀ k, anim_eased_l0 t e K (k + d + 1) low high = K P
  | 0, low, high, h0, h1, h2, h3, h4, k => by
    obtain rfl : low = P := by omega
    rw [anim_eased_l0, if_neg (by simp; omega)]
  | d + 1, low, high, h0, h1, h2, h3, h4, k => by
    obtain ⟨w0, w1, w2, w3⟩ := hw
    rw [anim_eased_l0]
    by_cases hlt : low < high
    · rw [if_pos (by simpa using hlt), letIn_eq, wi_id (n := low + high) (by omega) (by omega), Int.tdiv_eq_ediv_of_nonneg (by omega), wi_id (n := (low + high) / 2) (by omega) (by omega), bend_eq w0 w2 (by omega), wi_id (n := (low + high) / 2 + 1) (by omega) (by omega)]
      by_cases hc : t ≤ bz e.Curve.a0 e.Curve.a2 ((low + high) / 2)
      · rw [if_pos (by simpa using hc)]
        refine eased_loop e t P K ⟨w0, w1, w2, w3⟩ hL d low _ h0 h1 ?_ (by omega) (by omega) k
        exact Int.not_lt.1 fun hlt2 => absurd (hL.2.2 _ (by omega) hlt2) (by omega)
      · rw [if_neg (by simpa using hc)]
        refine eased_loop e t P K ⟨w0, w1, w2, w3⟩ hL d _ high (by omega) ?_ h2 h3 (by omega) k
        have : (low + high) / 2 < P := Int.not_le.1 fun hle => absurd (Int.le_trans hL.2.1 (bz_mono w0 w2 hL.1.1 hle (by omega))) hc
        omega
    · obtain rfl : low = P := by omega
      rw [if_neg (by simpa using hlt)]
theorem of_loop (e : TSEase) (t P : Int) (K : Int → Option Int) (hw : Within e) (hL : Least e.Curve.a0 e.Curve.a2 t P) : ∀ (d i : Nat), ((i + d : Nat) : Int) = P → ∀ k, clerestoryref2_EaseOf_l0 e t K (k + d + 1) (i : Int) = K P
  | 0, i, hi, k => by
    obtain ⟨w0, w1, w2, w3⟩ := hw
    obtain ⟨p1, p2, p3⟩ := hL
    obtain rfl : (i : Int) = P := by omega
    rw [clerestoryref2_EaseOf_l0, bend_same, bend_eq w0 w2 (by omega), if_neg (by simp; omega)]
  | d + 1, i, hi, k => by
    obtain ⟨w0, w1, w2, w3⟩ := hw
    have p1 := hL.1
    have p3 := hL.2.2 i (by omega) (by omega)
    rw [clerestoryref2_EaseOf_l0, bend_same, bend_eq w0 w2 (by omega), if_pos (by simp; omega), wi_id (by omega) (by omega), show (i : Int) + 1 = ((i + 1 : Nat) : Int) by omega, show k + (d + 1) = k + d + 1 by omega]
    exact of_loop e t P K ⟨w0, w1, w2, w3⟩ hL d (i + 1) (by omega) k
theorem eased_eq (e : TSEase) (t : Int) (h : EaseOk e) (ht : 0 ≤ t ∧ t ≤ 1000) : ∃ r, anim_eased e t = some r ∧ clerestoryref2_EaseOf e t = some r := by
  unfold anim_eased clerestoryref2_EaseOf
  rcases h with ⟨h, _⟩ | ⟨h, _, h1, _⟩ | ⟨h, hw, _⟩
  · exact ⟨t, by rw [if_neg (by simp; omega), if_neg (by simp; omega)], by rw [if_pos (by simpa using h)]⟩
  · refine ⟨_, by rw [if_pos (by simpa using h), quoq (by omega), Option.bind_some], by rw [if_neg (by simp; omega), if_pos (by simpa using h), quoq (by omega), Option.bind_some]⟩
  · obtain ⟨P, hL⟩ := least_exists e.Curve.a0 e.Curve.a2 t ht.2
    have hP := hL.1
    refine ⟨anim_bend e.Curve.a1 e.Curve.a3 P, ?_, ?_⟩
    · rw [if_neg (by simp; omega), if_pos (by simpa using h)]
      refine lim_add 4097 fun k => ?_
      exact eased_loop e t P _ hw hL 4096 0 4096 (by omega) (by omega) (by omega) (by omega) (by omega) k
    · rw [if_neg (by simp; omega), if_neg (by simp; omega)]
      refine lim_add (P.toNat + 1) fun k => ?_
      exact of_loop e t P _ hw hL P.toNat 0 (by omega) k

/-! ### what makes an animation right -/
def At (l : List TSFrame) (i : Nat) : Int := match l[i]? with | some x => x.At | none => 0
theorem At_of {l : List TSFrame} {i : Nat} (h : i < l.length) : At l i = l[i].At := by unfold At; rw [List.getElem?_eq_getElem h]
def inc (l : List TSFrame) : Nat → Nat → Bool
  | 0, _ => true
  | d + 1, i => decide (At l i < At l (i + 1)) && inc l d (i + 1)
theorem inc_spec (l : List TSFrame) : ∀ d i, inc l d i = true → ∀ j, i ≤ j → j < i + d → At l j < At l (j + 1)
  | 0, i, _, j, h1, h2 => by omega
  | d + 1, i, h, j, h1, h2 => by
    rw [inc, Bool.and_eq_true, decide_eq_true_eq] at h
    by_cases hj : j = i
    · rw [hj]; exact h.1
    · exact inc_spec l d (i + 1) h.2 j (by omega) (by omega)
theorem check_loop (a : TSAnim) (K : Unit → Option Int) (hl : a.Frames.length < 1000) : ∀ (d i : Nat), i + d + 1 = a.Frames.length → ∀ k, anim_Check_l0 (a.Frames.drop 1) a K (k + d + 1) (i : Int) = if inc a.Frames d i = true then K () else some 3
  | 0, i, hi, k => by
    rw [anim_Check_l0, if_neg (by rw [List.length_drop]; simp; omega)]
    rfl
  | d + 1, i, hi, k => by
    have h1 : i < a.Frames.length := by omega
    have h2 : i + 1 < a.Frames.length := by omega
    have h3 : i < (a.Frames.drop 1).length := by rw [List.length_drop]; omega
    rw [anim_Check_l0, if_pos (by rw [List.length_drop]; simp; omega), at_some h3, at_some h1, Option.bind_some, Option.bind_some, List.getElem_drop, show k + (d + 1) = k + d + 1 by omega, wi_id (by omega) (by omega), show (i : Int) + 1 = ((i + 1 : Nat) : Int) by omega,
      check_loop a K hl d (i + 1) (by omega) k, inc, At_of h1, At_of h2]
    have e : a.Frames[1 + i] = a.Frames[i + 1] := by congr 1; omega
    rw [e]
    by_cases hc : a.Frames[i].At < a.Frames[i + 1].At
    · rw [if_neg (by simp; omega), decide_eq_true hc, Bool.true_and]
    · rw [if_pos (by simp; omega), decide_eq_false hc, Bool.false_and, if_neg (by decide)]
theorem fault_loop (a : TSAnim) (K : Unit → Option Int) (hl : a.Frames.length < 1000) : ∀ (d i : Nat), i + d + 1 = a.Frames.length → ∀ k, clerestoryref2_AnimFault_l0 a K (k + d + 1) ((i : Int) + 1) = if inc a.Frames d i = true then K () else some 3
  | 0, i, hi, k => by
    rw [clerestoryref2_AnimFault_l0, if_neg (by simp; omega)]
    rfl
  | d + 1, i, hi, k => by
    have h1 : i < a.Frames.length := by omega
    have h2 : i + 1 < a.Frames.length := by omega
    rw [clerestoryref2_AnimFault_l0, if_pos (by simp; omega), wi_id (n := (i : Int) + 1 - 1) (by omega) (by omega), show (i : Int) + 1 - 1 = (i : Int) by omega, at_some h1, Option.bind_some, wi_id (n := (i : Int) + 1 + 1) (by omega) (by omega), show (i : Int) + 1 = ((i + 1 : Nat) : Int) by omega, at_some h2, Option.bind_some,
      show k + (d + 1) = k + d + 1 by omega, fault_loop a K hl d (i + 1) (by omega) k, inc, At_of h1, At_of h2]
    by_cases hc : a.Frames[i].At < a.Frames[i + 1].At
    · rw [if_neg (by simp; omega), decide_eq_true hc, Bool.true_and]
    · rw [if_pos (by simp; omega), decide_eq_false hc, Bool.false_and, if_neg (by decide)]
structure Good (a : TSAnim) : Prop where
  from_ : 0 ≤ a.From ∧ a.From ≤ 100000000
  len : 1 ≤ a.Length ∧ a.Length ≤ 100000000
  times : 1 ≤ a.Times ∧ a.Times ≤ 1000
  ease : EaseOk a.Ease
  n : 2 ≤ a.Frames.length ∧ a.Frames.length ≤ 10
  first : At a.Frames 0 = 0
  last : At a.Frames (a.Frames.length - 1) = 1000
  rise : ∀ j, j + 1 < a.Frames.length → At a.Frames j < At a.Frames (j + 1)
def chk (a : TSAnim) : Int :=
  if (0 ≤ a.From ∧ a.From ≤ 100000000) ∧ (1 ≤ a.Length ∧ a.Length ≤ 100000000) ∧ (1 ≤ a.Times ∧ a.Times ≤ 1000) then
    if EaseOk a.Ease then
      if 10 < a.Frames.length then 2
      else if a.Frames.length < 2 then 3
      else if At a.Frames 0 = 0 then
        if At a.Frames (a.Frames.length - 1) = 1000 then
          if inc a.Frames (a.Frames.length - 1) 0 = true then 0 else 3
        else 3
      else 3
    else 3
  else 1
theorem chk_good (a : TSAnim) (h : chk a = 0) : Good a := by
  unfold chk at h
  split at h
  · rename_i h1
    split at h
    · rename_i h2
      split at h
      · cases h
      · split at h
        · cases h
        · split at h
          · split at h
            · split at h
              · rename_i h3 h4 h5 h6 h7
                exact ⟨h1.1, h1.2.1, h1.2.2, h2, by omega, h5, h6, fun j hj => inc_spec _ _ _ h7 j (by omega) (by omega)⟩
              · cases h
            · cases h
          · cases h
    · cases h
  · cases h
theorem check_eq (a : TSAnim) : anim_Check a = some (chk a) := by
  unfold anim_Check
  rw [easing_eq, Option.bind_some]
  by_cases h1 : (0 ≤ a.From ∧ a.From ≤ 100000000) ∧ (1 ≤ a.Length ∧ a.Length ≤ 100000000) ∧ (1 ≤ a.Times ∧ a.Times ≤ 1000)
  · rw [if_neg (by simp [anim_in]; omega)]
    by_cases h2 : EaseOk a.Ease
    · rw [if_neg (by simp [h2])]
      by_cases h3 : 10 < a.Frames.length
      · rw [if_pos (by simp; omega)]
        unfold chk
        rw [if_pos h1, if_pos h2, if_pos h3]
      · rw [if_neg (by simp; omega)]
        unfold anim_Check_j1
        by_cases h4 : a.Frames.length < 2
        · rw [if_pos (by simp; omega), if_pos rfl]
          unfold chk
          rw [if_pos h1, if_pos h2, if_neg h3, if_pos h4]
        · have q0 : 0 < a.Frames.length := by omega
          have q1 : a.Frames.length - 1 < a.Frames.length := by omega
          rw [if_neg (by simp; omega), show at? a.Frames 0 = some a.Frames[0] from at_some q0, wi_id (by omega) (by omega), show (a.Frames.length : Int) - 1 = ((a.Frames.length - 1 : Nat) : Int) by omega, at_some q1, Option.bind_some, Option.bind_some]
          by_cases h5 : a.Frames[0].At = 0
          · rw [if_neg (by simp [h5])]
            have h5' : At a.Frames 0 = 0 := by rw [At_of q0]; exact h5
            by_cases h6 : a.Frames[a.Frames.length - 1].At = 1000
            · have h6' : At a.Frames (a.Frames.length - 1) = 1000 := by rw [At_of q1]; exact h6
              rw [if_neg (by simp [h6])]
              have hs : sub? a.Frames 1 (a.Frames.length : Int) = some (a.Frames.drop 1) := by
                unfold sub?
                rw [if_pos (by omega)]
                simp
              rw [hs, Option.bind_some, show (lim fun kk => anim_Check_l0 (a.Frames.drop 1) a (fun _ => some 0) kk 0) = if inc a.Frames (a.Frames.length - 1) 0 = true then some 0 else some 3 from
                lim_add (a.Frames.length - 1 + 1) fun k => check_loop a _ (by omega) (a.Frames.length - 1) 0 (by omega) k]
              unfold chk
              rw [if_pos h1, if_pos h2, if_neg h3, if_neg h4, if_pos h5', if_pos h6']
              split <;> rfl
            · have h6' : At a.Frames (a.Frames.length - 1) ≠ 1000 := by rw [At_of q1]; exact h6
              rw [if_pos (by simp [h6])]
              unfold chk
              rw [if_pos h1, if_pos h2, if_neg h3, if_neg h4, if_pos h5', if_neg h6']
          · have h5' : At a.Frames 0 ≠ 0 := by rw [At_of q0]; exact h5
            rw [if_pos (by simp [h5]), if_pos rfl]
            unfold chk
            rw [if_pos h1, if_pos h2, if_neg h3, if_neg h4, if_neg h5']
    · rw [if_pos (by simp [h2])]
      unfold chk
      rw [if_pos h1, if_neg h2]
  · rw [if_pos (by simp [anim_in]; omega)]
    unfold chk
    rw [if_neg h1]
theorem fault_eq (a : TSAnim) : clerestoryref2_AnimFault a = some (chk a) := by
  unfold clerestoryref2_AnimFault
  rw [may_eq, Option.bind_some]
  by_cases h1 : (0 ≤ a.From ∧ a.From ≤ 100000000) ∧ (1 ≤ a.Length ∧ a.Length ≤ 100000000) ∧ (1 ≤ a.Times ∧ a.Times ≤ 1000)
  · rw [if_neg (by simp; omega)]
    by_cases h2 : EaseOk a.Ease
    · rw [if_neg (by simp [h2])]
      by_cases h3 : 10 < a.Frames.length
      · rw [if_pos (by simp; omega)]
        unfold chk
        rw [if_pos h1, if_pos h2, if_pos h3]
      · rw [if_neg (by simp; omega)]
        unfold clerestoryref2_AnimFault_j1
        by_cases h4 : a.Frames.length < 2
        · rw [if_pos (by simp; omega), if_pos rfl]
          unfold chk
          rw [if_pos h1, if_pos h2, if_neg h3, if_pos h4]
        · have q0 : 0 < a.Frames.length := by omega
          have q1 : a.Frames.length - 1 < a.Frames.length := by omega
          rw [if_neg (by simp; omega), show at? a.Frames 0 = some a.Frames[0] from at_some q0, wi_id (by omega) (by omega), show (a.Frames.length : Int) - 1 = ((a.Frames.length - 1 : Nat) : Int) by omega, at_some q1, Option.bind_some, Option.bind_some]
          by_cases h5 : a.Frames[0].At = 0
          · rw [if_neg (by simp [h5])]
            have h5' : At a.Frames 0 = 0 := by rw [At_of q0]; exact h5
            by_cases h6 : a.Frames[a.Frames.length - 1].At = 1000
            · have h6' : At a.Frames (a.Frames.length - 1) = 1000 := by rw [At_of q1]; exact h6
              rw [if_neg (by simp [h6])]
              rw [show (lim fun kk => clerestoryref2_AnimFault_l0 a (fun _ => some 0) kk 1) = if inc a.Frames (a.Frames.length - 1) 0 = true then some 0 else some 3 from
                lim_add (a.Frames.length - 1 + 1) fun k => fault_loop a _ (by omega) (a.Frames.length - 1) 0 (by omega) k]
              unfold chk
              rw [if_pos h1, if_pos h2, if_neg h3, if_neg h4, if_pos h5', if_pos h6']
              split <;> rfl
            · have h6' : At a.Frames (a.Frames.length - 1) ≠ 1000 := by rw [At_of q1]; exact h6
              rw [if_pos (by simp [h6])]
              unfold chk
              rw [if_pos h1, if_pos h2, if_neg h3, if_neg h4, if_pos h5', if_neg h6']
          · have h5' : At a.Frames 0 ≠ 0 := by rw [At_of q0]; exact h5
            rw [if_pos (by simp [h5]), if_pos rfl]
            unfold chk
            rw [if_pos h1, if_pos h2, if_neg h3, if_neg h4, if_neg h5']
    · rw [if_pos (by simp [h2])]
      unfold chk
      rw [if_pos h1, if_neg h2]
  · rw [if_pos (by simp; omega)]
    unfold chk
    rw [if_neg h1]

/-! ### frames -/
theorem rise_le {l : List TSFrame} (hr : ∀ j, j + 1 < l.length → At l j < At l (j + 1)) : ∀ d i, i + d < l.length → At l i ≤ At l (i + d)
  | 0, i, _ => Int.le_refl _
  | d + 1, i, h => by
    have h1 := rise_le hr d i (by omega)
    have h2 := hr (i + d) (by omega)
    rw [show i + (d + 1) = i + d + 1 by omega]
    omega
theorem rise_mono {l : List TSFrame} (hr : ∀ j, j + 1 < l.length → At l j < At l (j + 1)) {i j : Nat} (hij : i ≤ j) (hj : j < l.length) : At l i ≤ At l j := by
  have := rise_le hr (j - i) i (by omega)
  rwa [show i + (j - i) = j by omega] at this
theorem At_in {a : TSAnim} (g : Good a) {i : Nat} (hi : i < a.Frames.length) : 0 ≤ At a.Frames i ∧ At a.Frames i ≤ 1000 := by
  have h1 := rise_mono g.rise (Nat.zero_le i) hi
  have h2 := rise_mono g.rise (i := i) (j := a.Frames.length - 1) (by omega) (by omega)
  rw [g.first] at h1
  rw [g.last] at h2
  exact ⟨h1, h2⟩
def Place (l : List TSFrame) (r : Int) (p : Nat) : Prop := p < l.length ∧ At l p ≤ r ∧ (p + 1 < l.length → r < At l (p + 1))
theorem place_exists {a : TSAnim} (g : Good a) {r : Int} (hr : 0 ≤ r) : ∃ p, Place a.Frames r p := by
  have hn := g.n
  have key : ∀ d, d < a.Frames.length → ∃ p, p ≤ d ∧ At a.Frames p ≤ r ∧ (p < d → r < At a.Frames (p + 1)) := by
    intro d
    induction d with
    | zero => exact fun _ => ⟨0, Nat.le_refl _, by rw [g.first]; exact hr, fun h => absurd h (Nat.lt_irrefl _)⟩
    | succ d ih =>
      intro hd
      by_cases hc : At a.Frames (d + 1) ≤ r
      · exact ⟨d + 1, Nat.le_refl _, hc, fun h => absurd h (Nat.lt_irrefl _)⟩
      · obtain ⟨p, h1, h2, h3⟩ := ih (by omega)
        refine ⟨p, by omega, h2, fun _ => ?_⟩
        by_cases hp : p < d
        · exact h3 hp
        · obtain rfl : p = d := by omega
          omega
  obtain ⟨p, h1, h2, h3⟩ := key (a.Frames.length - 1) (by omega)
  exact ⟨p, by omega, h2, fun h => h3 (by omega)⟩
theorem frames_loop (a : TSAnim) (g : Good a) (r : Int) (K : Int → Option TVal) (p : Nat) (hp : Place a.Frames r p) : ∀ (d i : Nat), i + d = p → ∀ k, anim_frames_l0 a r K (k + d + 1) (i : Int) = K (p : Int)
  | 0, i, hi, k => by
    obtain rfl : i = p := by omega
    have hn := g.n
    obtain ⟨h1, h2, h3⟩ := hp
    rw [anim_frames_l0, wi_id (by omega) (by omega), show (i : Int) + 1 = ((i + 1 : Nat) : Int) by omega]
    by_cases hc : i + 1 < a.Frames.length
    · have := h3 hc
      rw [At_of hc] at this
      rw [if_pos (by simp; omega), at_some hc, Option.bind_some]
      unfold anim_frames_j3
      rw [if_neg (by simp; omega)]
    · rw [if_neg (by simp; omega)]
      rfl
  | d + 1, i, hi, k => by
    have hn := g.n
    have h1 := hp.1
    have h2 := hp.2.1
    have hc : i + 1 < a.Frames.length := by omega
    have hm := rise_mono g.rise (i := i + 1) (j := p) (by omega) h1
    rw [At_of hc] at hm
    rw [anim_frames_l0, wi_id (by omega) (by omega), show (i : Int) + 1 = ((i + 1 : Nat) : Int) by omega, if_pos (by simp; omega), at_some hc, Option.bind_some]
    unfold anim_frames_j3
    rw [if_pos (by simp; omega), wi_id (by omega) (by omega), show (i : Int) + 1 = ((i + 1 : Nat) : Int) by omega, show k + (d + 1) = k + d + 1 by omega]
    exact frames_loop a g r K p hp d (i + 1) (by omega) k
/-- what both answer at a place -/
noncomputable def refAt (a : TSAnim) (r : Int) (p : Nat) : Option TVal :=
  (at? a.Frames (p : Int)).bind fun x =>
  if (p : Int) = (a.Frames.length : Int) - 1 then some x.Val else
    (at? a.Frames ((p : Int) + 1)).bind fun y =>
    (quo? .i64 (wi ((wi (r - x.At)) * 1000)) (wi (y.At - x.At))).bind fun t =>
    (clerestoryref2_EaseOf a.Ease t).bind fun u => (clerestoryref2_MixOf x.Val y.Val u).bind fun v => some v
theorem value_loop (a : TSAnim) (g : Good a) (r : Int) (K : Unit → Option TVal) (p : Nat) (hp : Place a.Frames r p) : ∀ (d : Nat), p + d < a.Frames.length → ∀ k, clerestoryref2_FrameValue_l0 a r K (k + d + 1) ((p + d : Nat) : Int) = refAt a r p
  | 0, hi, k => by
    have hn := g.n
    obtain ⟨h1, h2, h3⟩ := hp
    rw [At_of h1] at h2
    rw [clerestoryref2_FrameValue_l0, if_pos (by simp only [decide_eq_true_eq]; omega)]
    unfold refAt
    rw [Nat.add_zero, at_some h1, Option.bind_some, Option.bind_some, if_neg (by simp; omega), wi_id (n := (a.Frames.length : Int) - 1) (by omega) (by omega), wi_id (n := (p : Int) + 1) (by omega) (by omega)]
    by_cases hc : (p : Int) = (a.Frames.length : Int) - 1
    · rw [if_pos (by simpa using hc), if_pos hc]
    · rw [if_neg (by simpa using hc), if_neg hc]
  | d + 1, hi, k => by
    have hn := g.n
    have h1 := hp.1
    have h3 := hp.2.2 (by omega)
    have hm := rise_mono g.rise (i := p + 1) (j := p + (d + 1)) (by omega) hi
    rw [At_of hi] at hm
    rw [clerestoryref2_FrameValue_l0, if_pos (by simp; omega), at_some hi, Option.bind_some, if_pos (by simp; omega), wi_id (by omega) (by omega), show ((p + (d + 1) : Nat) : Int) - 1 = ((p + d : Nat) : Int) by omega, show k + (d + 1) = k + d + 1 by omega]
    exact value_loop a g r K p hp d (by omega) k
theorem frames_eq (a : TSAnim) (g : Good a) (r : Int) (hr : 0 ≤ r ∧ r ≤ 1000) : ∃ v, anim_frames a r = some v ∧ clerestoryref2_FrameValue a r = some v := by
  have hn := g.n
  obtain ⟨p, hp⟩ := place_exists g hr.1
  have e2 : clerestoryref2_FrameValue a r = refAt a r p := by
    unfold clerestoryref2_FrameValue
    refine lim_add (a.Frames.length - 1 - p + 1) fun k => ?_
    have h1 := hp.1
    have := value_loop a g r (fun _ => some (⟨0, 0⟩ : TVal)) p hp (a.Frames.length - 1 - p) (by omega) k
    rw [wi_id (by omega) (by omega), show (a.Frames.length : Int) - 1 = ((p + (a.Frames.length - 1 - p) : Nat) : Int) by omega]
    exact this
  rw [e2]
  obtain ⟨h1, h2, h3⟩ := hp
  have i1 := At_in g h1
  have e1 : ∀ w, (at? a.Frames (p : Int)).bind (fun x_1 : TSFrame =>
      if decide ((wi ((p : Int) + 1)) = (a.Frames.length : Int)) then
        some x_1.Val
      else
        (at? a.Frames (wi ((p : Int) + 1))).bind fun x_2 =>
        (quo? .i64 (wi ((wi (r - x_1.At)) * 1000)) (wi (x_2.At - x_1.At))).bind fun r_1 =>
        (anim_eased a.Ease r_1).bind fun r_2 =>
        (anim_Mix x_1.Val x_2.Val r_2).bind fun r_3 =>
        some r_3) = some w → anim_frames a r = some w := by
    intro w hw
    unfold anim_frames
    refine lim_add (p + 1) fun k => ?_
    exact (frames_loop a g r _ p ⟨h1, h2, h3⟩ p 0 (by omega) k).trans hw
  unfold refAt
  rw [at_some h1] at e1 ⊢
  rw [Option.bind_some] at e1 ⊢
  rw [wi_id (n := (p : Int) + 1) (by omega) (by omega)] at e1
  by_cases hc : (p : Int) = (a.Frames.length : Int) - 1
  · rw [if_pos hc]
    exact ⟨_, e1 _ (by rw [if_pos (by simp; omega)]), rfl⟩
  · rw [if_neg hc]
    have hc2 : p + 1 < a.Frames.length := by omega
    have i2 := At_in g hc2
    have h4 := h3 hc2
    rw [show (p : Int) + 1 = ((p + 1 : Nat) : Int) by omega, at_some hc2, Option.bind_some]
    rw [show (p : Int) + 1 = ((p + 1 : Nat) : Int) by omega, at_some hc2, Option.bind_some] at e1
    rw [At_of h1] at h2 i1
    rw [At_of hc2] at h4 i2
    rw [wi_id (n := r - _) (by omega) (by omega), wi_id (n := (r - _) * 1000) (by omega) (by omega), wi_id (n := a.Frames[p + 1].At - _) (by omega) (by omega), quoq (by omega), Option.bind_some] at e1 ⊢
    rw [if_neg (by simp; omega)] at e1
    have hq : 0 ≤ ((r - a.Frames[p].At) * 1000).tdiv (a.Frames[p + 1].At - a.Frames[p].At) ∧ ((r - a.Frames[p].At) * 1000).tdiv (a.Frames[p + 1].At - a.Frames[p].At) ≤ 1000 := by
      rw [Int.tdiv_eq_ediv_of_nonneg (by omega)]
      refine ⟨Int.ediv_nonneg (by omega) (by omega), Int.ediv_le_of_le_mul (by omega) ?_⟩
      omega
    rw [show IntKind.i64.wrap (((r - a.Frames[p].At) * 1000).tdiv (a.Frames[p + 1].At - a.Frames[p].At)) = ((r - a.Frames[p].At) * 1000).tdiv (a.Frames[p + 1].At - a.Frames[p].At) from wi_id (by omega) (by omega)] at e1 ⊢
    obtain ⟨u, u1, u2⟩ := eased_eq a.Ease _ g.ease hq
    obtain ⟨v, v1, v2⟩ := mix_eq a.Frames[p].Val a.Frames[p + 1].Val u
    refine ⟨v, e1 v ?_, ?_⟩
    · rw [u1, Option.bind_some, v1]; rfl
    · rw [u2, Option.bind_some, v2]; rfl

/-! ### what one animation tells -/
theorem turn_loop (a : TSAnim) (g : Good a) (K : Int → Int → Option (TVal × Bool)) (s : Int) (hs : 0 ≤ s ∧ s < a.Length) : ∀ (q : Nat) (turn : Int), 0 ≤ turn → turn + q < 1000 → ∀ k, clerestoryref2_AnimTells_l0 a K (k + q + 1) (q * a.Length + s) turn = K s (turn + q)
  | 0, turn, h0, h1, k => by
    have hl := g.len
    rw [clerestoryref2_AnimTells_l0, if_neg (by simp; omega)]
    simp
  | q + 1, turn, h0, h1, k => by
    have hl := g.len
    have e : ((q + 1 : Nat) : Int) * a.Length = q * a.Length + a.Length := by rw [show ((q + 1 : Nat) : Int) = (q : Int) + 1 by omega, Int.add_mul, Int.one_mul]
    have hb : 0 ≤ (q : Int) * a.Length ∧ (q : Int) * a.Length ≤ 1000 * 100000000 := ⟨Int.mul_nonneg (by omega) (by omega), Int.mul_le_mul (by omega) hl.2 (by omega) (by omega)⟩
    rw [clerestoryref2_AnimTells_l0, e, if_pos (by simp; omega), wi_id (by omega) (by omega), wi_id (by omega) (by omega), show (q : Int) * a.Length + a.Length + s - a.Length = q * a.Length + s by omega, show k + (q + 1) = k + q + 1 by omega,
      turn_loop a g K s hs q (turn + 1) (by omega) (by omega) k]
    congr 1
    omega
theorem tells_eq (a : TSAnim) (g : Good a) (now : Int) (hnow : 0 ≤ now ∧ now ≤ 200000000000) : ∃ v1 v2 b, anim_tells a now = some (v1, b) ∧ clerestoryref2_AnimTells a now = some (v2, b) ∧ (b = true → v1 = v2) := by
  have hn := g.n
  have hf := g.from_
  have hl := g.len
  have ht := g.times
  have q0 : 0 < a.Frames.length := by omega
  have q1 : a.Frames.length - 1 < a.Frames.length := by omega
  have hb : 0 ≤ a.Times * a.Length ∧ a.Times * a.Length ≤ 1000 * 100000000 := ⟨Int.mul_nonneg (by omega) (by omega), Int.mul_le_mul ht.2 hl.2 (by omega) (by omega)⟩
  unfold anim_tells clerestoryref2_AnimTells anim_end
  rw [wi_id (n := a.Times * a.Length) (by omega) (by omega), wi_id (n := a.From + a.Times * a.Length) (by omega) (by omega), wi_id (n := (a.Frames.length : Int) - 1) (by omega) (by omega), show (a.Frames.length : Int) - 1 = ((a.Frames.length - 1 : Nat) : Int) by omega, at_some q1,
    show at? a.Frames 0 = some a.Frames[0] from at_some q0]
  by_cases h1 : now < a.From
  · exact ⟨⟨0, 0⟩, ⟨0, 0⟩, false, if_pos (by simpa using h1), if_pos (by simpa using h1), fun _ => rfl⟩
  · rw [if_neg (show ¬ decide (now < a.From) = true by simpa using h1), if_neg (show ¬ decide (now < a.From) = true by simpa using h1)]
    by_cases h2 : a.From + a.Times * a.Length ≤ now
    · rw [if_pos (show decide (a.From + a.Times * a.Length ≤ now) = true by simpa using h2), if_pos (show decide (a.From + a.Times * a.Length ≤ now) = true by simpa using h2)]
      simp only [Option.bind_some, anim_tells_j1]
      cases hc : (a.Turn && decide (a.Times.tmod 2 = 0)) <;> cases hs : a.Stays
      · exact ⟨_, _, _, rfl, rfl, by simp⟩
      · exact ⟨_, _, _, rfl, rfl, fun _ => rfl⟩
      · exact ⟨_, _, _, rfl, rfl, by simp⟩
      · exact ⟨_, _, _, rfl, rfl, fun _ => rfl⟩
    · rw [if_neg (show ¬ decide (a.From + a.Times * a.Length ≤ now) = true by simpa using h2), if_neg (show ¬ decide (a.From + a.Times * a.Length ≤ now) = true by simpa using h2)]
      have hw : 0 ≤ now - a.From := by omega
      have hs : 0 ≤ (now - a.From) % a.Length ∧ (now - a.From) % a.Length < a.Length := ⟨Int.emod_nonneg _ (by omega), Int.emod_lt_of_pos _ (by omega)⟩
      have hq : 0 ≤ (now - a.From) / a.Length := Int.ediv_nonneg hw (by omega)
      have hqt : (now - a.From) / a.Length < a.Times := Int.ediv_lt_of_lt_mul (by omega) (by omega)
      have hsum := Int.mul_ediv_add_emod (now - a.From) a.Length
      have hr : 0 ≤ ((now - a.From) % a.Length * 1000).tdiv a.Length ∧ ((now - a.From) % a.Length * 1000).tdiv a.Length ≤ 1000 := by
        rw [Int.tdiv_eq_ediv_of_nonneg (by omega)]
        exact ⟨Int.ediv_nonneg (by omega) (by omega), Int.ediv_le_of_le_mul (by omega) (by omega)⟩
      rw [wi_id (n := now - a.From) (by omega) (by omega), remq (by omega), Option.bind_some, Int.tmod_eq_emod_of_nonneg hw, wi_id (n := (now - a.From) % a.Length * 1000) (by omega) (by omega), quoq (by omega), quoq (by omega), Option.bind_some, Option.bind_some, Int.tdiv_eq_ediv_of_nonneg hw,
        show IntKind.i64.wrap ((now - a.From) / a.Length) = (now - a.From) / a.Length from wi_id (by omega) (by omega),
        show IntKind.i64.wrap (((now - a.From) % a.Length * 1000).tdiv a.Length) = ((now - a.From) % a.Length * 1000).tdiv a.Length from wi_id (by omega) (by omega)]
      have key : ∀ w, (if (a.Turn && (decide (((now - a.From) / a.Length).tmod 2 = 1))) then
            clerestoryref2_AnimTells_j1 a (wi (1000 - ((now - a.From) % a.Length * 1000).tdiv a.Length))
          else
            clerestoryref2_AnimTells_j1 a (((now - a.From) % a.Length * 1000).tdiv a.Length)) = some w → (lim fun kk => clerestoryref2_AnimTells_l0 a (fun (left1 : Int) (turn1 : Int) => 
          (quo? .i64 (wi (left1 * 1000)) a.Length).bind fun r_ =>
          if (a.Turn && (decide ((turn1.tmod 2) = 1))) then
            clerestoryref2_AnimTells_j1 a (wi (1000 - r_))
          else
            clerestoryref2_AnimTells_j1 a r_) kk (now - a.From) 0) = some w := by
        intro w hw2
        refine lim_add (((now - a.From) / a.Length).toNat + 1) fun k => ?_
        have := turn_loop a g (fun (left1 : Int) (turn1 : Int) => 
          (quo? .i64 (wi (left1 * 1000)) a.Length).bind fun r_ =>
          if (a.Turn && (decide ((turn1.tmod 2) = 1))) then
            clerestoryref2_AnimTells_j1 a (wi (1000 - r_))
          else
            clerestoryref2_AnimTells_j1 a r_) ((now - a.From) % a.Length) hs ((now - a.From) / a.Length).toNat 0 (by omega) (by omega) k
        rw [Int.toNat_of_nonneg hq, show (now - a.From) / a.Length * a.Length + (now - a.From) % a.Length = now - a.From by rw [Int.mul_comm]; exact hsum, Int.zero_add] at this
        refine this.trans ?_
        rw [wi_id (n := (now - a.From) % a.Length * 1000) (by omega) (by omega), quoq (by omega), Option.bind_some, show IntKind.i64.wrap (((now - a.From) % a.Length * 1000).tdiv a.Length) = ((now - a.From) % a.Length * 1000).tdiv a.Length from wi_id (by omega) (by omega)]
        exact hw2
      obtain ⟨v, f1, f2⟩ := frames_eq a g _ hr
      obtain ⟨v', f3, f4⟩ := frames_eq a g (1000 - ((now - a.From) % a.Length * 1000).tdiv a.Length) (by omega)
      have hwi : wi (1000 - ((now - a.From) % a.Length * 1000).tdiv a.Length) = 1000 - ((now - a.From) % a.Length * 1000).tdiv a.Length := wi_id (by omega) (by omega)
      rw [hwi] at key
      unfold anim_tells_j5 anim_tells_j4
      rw [hwi]
      cases htn : a.Turn with
      | false =>
        rw [htn] at key
        exact ⟨v, v, true, by simp only [Bool.false_eq_true, if_false, f1, Option.bind_some], key _ (by unfold clerestoryref2_AnimTells_j1; simp only [Bool.false_and, Bool.false_eq_true, if_false, f2, Option.bind_some]), fun _ => rfl⟩
      | true =>
        rw [htn] at key
        by_cases hd : ((now - a.From) / a.Length).tmod 2 = 1
        · exact ⟨v', v', true, by simp only [if_true, hd, decide_true, f3, Option.bind_some], key _ (by unfold clerestoryref2_AnimTells_j1; simp only [hd, decide_true, Bool.true_and, if_true, f4, Option.bind_some]), fun _ => rfl⟩
        · exact ⟨v, v, true, by simp only [if_true, hd, decide_false, Bool.false_eq_true, if_false, f1, Option.bind_some], key _ (by unfold clerestoryref2_AnimTells_j1; simp only [hd, decide_false, Bool.true_and, Bool.false_eq_true, if_false, f2, Option.bind_some]), fun _ => rfl⟩

/-! ### the law -/
theorem stepped : clerestorylaw2_stepped = some true := by
  rfl
theorem right_loop (l : List TSAnim) (now : Int) (hl : l.length < 1000) (r : Bool) (base : TVal) : ∀ (d i : Nat), i + d = l.length → ∃ c, (∀ k K, anim_right_l0 l now K (k + d + 1) (i : Int) = if c = 0 then K () else some c) ∧
    (∀ k K, clerestorylaw2_AnimTells_l0 l now r base K (k + d + 1) 0 (i : Int) = K c) ∧ (c = 0 → ∀ j (hj : j < l.length), i ≤ j → Good l[j])
  | 0, i, hi => by
    refine ⟨0, fun k K => ?_, fun k K => ?_, fun _ j hj h => by omega⟩
    · rw [anim_right_l0, if_neg (by simp; omega), if_pos rfl]
    · rw [clerestorylaw2_AnimTells_l0, if_neg (by simp; omega)]
  | d + 1, i, hi => by
    have hc : i < l.length := by omega
    obtain ⟨c, h1, h2, h3⟩ := right_loop l now hl r base d (i + 1) (by omega)
    by_cases h0 : chk l[i] = 0
    · refine ⟨c, fun k K => ?_, fun k K => ?_, fun h j hj hij => ?_⟩
      · rw [anim_right_l0, if_pos (by simp; omega), at_some hc, Option.bind_some, check_eq, Option.bind_some, if_neg (by simp [h0]), wi_id (by omega) (by omega), show (i : Int) + 1 = ((i + 1 : Nat) : Int) by omega, show k + (d + 1) = k + d + 1 by omega]
        exact h1 k K
      · rw [clerestorylaw2_AnimTells_l0, if_pos (by simp; omega), at_some hc, Option.bind_some, fault_eq, Option.bind_some, h0, wi_id (by omega) (by omega), show (i : Int) + 1 = ((i + 1 : Nat) : Int) by omega, show k + (d + 1) = k + d + 1 by omega]
        exact h2 k K
      · by_cases hji : j = i
        · subst hji; exact chk_good _ h0
        · exact h3 h j hj (by omega)
    · refine ⟨chk l[i], fun k K => ?_, fun k K => ?_, fun h => absurd h h0⟩
      · rw [anim_right_l0, if_pos (by simp; omega), at_some hc, Option.bind_some, check_eq, Option.bind_some, if_pos (by simp [h0]), if_neg h0]
      · rw [clerestorylaw2_AnimTells_l0, if_pos (by simp; omega), at_some hc, Option.bind_some, fault_eq, Option.bind_some, show k + (d + 1) = k + d + 1 by omega, clerestorylaw2_AnimTells_l0, if_neg (by simp [h0])]
theorem at_loop (l : List TSAnim) (now : Int) (hnow : 0 ≤ now ∧ now ≤ 200000000000) (hl : l.length < 1000) (hg : ∀ j (hj : j < l.length), Good l[j]) (r : Bool) (base : TVal) : ∀ (d i : Nat), i + d = l.length → ∀ b0 b1 : Int, ∃ v0 v1, (∀ k K, anim_At_l0 l now K (k + d + 1) b0 b1 (i : Int) = K v0 v1) ∧
    (∀ k K, clerestorylaw2_AnimTells_l1 l 0 now r base K (k + d + 1) b0 b1 (i : Int) = K v0 v1)
  | 0, i, hi, b0, b1 => by
    refine ⟨b0, b1, fun k K => ?_, fun k K => ?_⟩
    · rw [anim_At_l0, if_neg (by simp; omega)]
    · rw [clerestorylaw2_AnimTells_l1, if_neg (by simp; omega)]
  | d + 1, i, hi, b0, b1 => by
    have hc : i < l.length := by omega
    obtain ⟨v, w, b, e1, e2, e3⟩ := tells_eq l[i] (hg i hc) now hnow
    have step : ∃ c0 c1, (∀ k K, anim_At_l0 l now K (k + d + 1 + 1) b0 b1 (i : Int) = anim_At_l0 l now K (k + d + 1) c0 c1 ((i + 1 : Nat) : Int)) ∧
        (∀ k K, clerestorylaw2_AnimTells_l1 l 0 now r base K (k + d + 1 + 1) b0 b1 (i : Int) = clerestorylaw2_AnimTells_l1 l 0 now r base K (k + d + 1) c0 c1 ((i + 1 : Nat) : Int)) := by
      cases b with
      | true =>
        obtain rfl := e3 rfl
        refine ⟨v.Kind, v.N, fun k K => ?_, fun k K => ?_⟩
        · rw [anim_At_l0, if_pos (by simp; omega), at_some hc, Option.bind_some, e1, Option.bind_some, if_pos rfl]
          unfold anim_At_j3
          rw [wi_id (by omega) (by omega), show (i : Int) + 1 = ((i + 1 : Nat) : Int) by omega]
        · rw [clerestorylaw2_AnimTells_l1, if_pos (by simp; omega), at_some hc, Option.bind_some, e2, Option.bind_some, if_pos rfl]
          unfold clerestorylaw2_AnimTells_j5
          rw [wi_id (by omega) (by omega), show (i : Int) + 1 = ((i + 1 : Nat) : Int) by omega]
      | false =>
        refine ⟨b0, b1, fun k K => ?_, fun k K => ?_⟩
        · rw [anim_At_l0, if_pos (by simp; omega), at_some hc, Option.bind_some, e1, Option.bind_some, if_neg Bool.false_ne_true]
          unfold anim_At_j3
          rw [wi_id (by omega) (by omega), show (i : Int) + 1 = ((i + 1 : Nat) : Int) by omega]
        · rw [clerestorylaw2_AnimTells_l1, if_pos (by simp; omega), at_some hc, Option.bind_some, e2, Option.bind_some, if_neg Bool.false_ne_true]
          unfold clerestorylaw2_AnimTells_j5
          rw [wi_id (by omega) (by omega), show (i : Int) + 1 = ((i + 1 : Nat) : Int) by omega]
    obtain ⟨c0, c1, s1, s2⟩ := step
    obtain ⟨v0, v1, h1, h2⟩ := at_loop l now hnow hl hg r base d (i + 1) (by omega) c0 c1
    refine ⟨v0, v1, fun k K => ?_, fun k K => ?_⟩
    · rw [show k + (d + 1) + 1 = k + d + 1 + 1 by omega, s1]; exact h1 k K
    · rw [show k + (d + 1) + 1 = k + d + 1 + 1 by omega, s2]; exact h2 k K
/-- what is left when the code is known -/
theorem tells_code (l : List TSAnim) (base : TVal) (now : Int) (c : Int) (hr : anim_right l now = some c) (hl : c = 0 → l.length < 1000) (hg : c = 0 → (0 ≤ now ∧ now ≤ 200000000000) ∧ ∀ j (hj : j < l.length), Good l[j]) : clerestorylaw2_AnimTells_j2 l now true base c = some true := by
  unfold clerestorylaw2_AnimTells_j2
  by_cases h0 : c = 0
  · subst h0
    obtain ⟨hnow, hgood⟩ := hg rfl
    obtain ⟨v0, v1, h1, h2⟩ := at_loop l now hnow (hl rfl) hgood true base l.length 0 (by omega) base.Kind base.N
    refine lim_add (l.length + 1) fun k => (h2 k _).trans ?_
    rw [if_neg (by decide)]
    unfold clerestorylaw2_AnimTells_j6
    have : anim_At l base now = some ((⟨v0, v1⟩ : TVal), 0) := by
      unfold anim_At
      rw [hr, Option.bind_some, if_neg (by decide)]
      exact lim_add (l.length + 1) fun k => h1 k _
    rw [this, Option.bind_some]
    simp
  · refine lim_add 1 fun k => ?_
    rw [clerestorylaw2_AnimTells_l1, if_neg (by simp [h0]), if_pos (by simp [h0])]
    unfold clerestorylaw2_AnimTells_j6
    have : anim_At l base now = some ((⟨0, 0⟩ : TVal), c) := by
      unfold anim_At
      rw [hr, Option.bind_some, if_pos (by simp [h0])]
    rw [this, Option.bind_some]
    simp
theorem pureAnimTells : PureAnimTells := by
  intro l base now _ _ _
  unfold clerestorylaw2_AnimTells
  rw [stepped, Option.bind_some]
  unfold clerestorylaw2_AnimTells_j1
  by_cases h1 : 10 < l.length
  · rw [if_pos (by simp; omega)]
    refine lim_add 1 fun k => ?_
    rw [clerestorylaw2_AnimTells_l0, if_neg (by simp), if_neg (by simp)]
    exact tells_code l base now 2 (by unfold anim_right; rw [if_pos (by simp; omega)]) (fun h => by cases h) (fun h => by cases h)
  · rw [if_neg (by simp; omega)]
    obtain ⟨c, h2, h3, h4⟩ := right_loop l now (by omega) true base l.length 0 (by omega)
    refine lim_add (l.length + 1) fun k => (h3 k _).trans ?_
    have hright : anim_right l now = if c = 0 then (if (!(anim_in now 0 200000000000)) then some 1 else some 0) else some c := by
      unfold anim_right
      rw [if_neg (by simp; omega)]
      have : ∀ w, (if c = 0 then (if (!(anim_in now 0 200000000000)) then some 1 else some 0) else some c) = w → w.isSome → (lim fun kk => anim_right_l0 l now (fun (_ : Unit) => if (!(anim_in now 0 200000000000)) then some 1 else some 0) kk 0) = w := by
        intro w hw _
        exact lim_add (l.length + 1) fun k => (h2 k _).trans hw
      exact this _ rfl (by split <;> (try split) <;> rfl)
    by_cases hc : c = 0
    · rw [if_pos hc] at hright
      by_cases hn : 0 ≤ now ∧ now ≤ 200000000000
      · rw [if_neg (by simp; omega), hc]
        rw [if_neg (by simp [anim_in]; omega)] at hright
        exact tells_code l base now 0 hright (fun _ => by omega) fun _ => ⟨hn, fun j hj => h4 hc j hj (Nat.zero_le _)⟩
      · rw [if_pos (by simp [hc]; omega)]
        rw [if_pos (by simp [anim_in]; omega)] at hright
        exact tells_code l base now 1 hright (fun h => by cases h) (fun h => by cases h)
    · rw [if_neg hc] at hright
      rw [if_neg (by simp [hc])]
      exact tells_code l base now c hright (fun h => absurd h hc) (fun h => absurd h hc)
end Go.Proofs.YtgfcmhomndofaaaBv
