/- The numbers of easings: what a curve's polynomial is, that it rises, and the least place where it reaches a time. No program is in sight. -/
import Derived.Test.YtgfcmhomndofaaaAv18
namespace Go.Proofs.YtgfcmhomndofaaaAv
open Go

/-- the curve's polynomial, times 4096 to the third -/
def bp (a b k : Int) : Int := 3 * (4096 - k) * (4096 - k) * k * a + 3 * (4096 - k) * k * k * b + k * k * k * 1000
def bz (a b k : Int) : Int := (bp a b k).tdiv 68719476736

theorem bp_rise {a b k : Int} (ha : 0 ≤ a ∧ a ≤ 1000) (hb : 0 ≤ b ∧ b ≤ 1000) (hk : 0 ≤ k ∧ k < 4096) : bp a b k ≤ bp a b (k + 1) := by
  have e : 1000000 * (bp a b (k + 1) - bp a b k) = (1000 - a) * (1000 - b) * (1000 * (3 * (k * k) + 3 * k + 1)) + a * (1000 - b) * (1000 * (3 * ((4096 - k - k - 1) * (4096 - k - k - 1)) + 1)) +
      (1000 - a) * b * (1000 * (6 * ((4096 - k) * k) + 3 * (4096 - k) - 3 * k - 2)) + a * b * (1000 * (3 * ((4096 - k) * (4096 - k)) - 3 * (4096 - k) + 1)) := by
    unfold bp; grind
  have sq : ∀ x : Int, 0 ≤ x * x := fun x => by
    rcases Int.le_total 0 x with h | h
    · exact Int.mul_nonneg h h
    · have := Int.mul_nonneg (Int.neg_nonneg_of_nonpos h) (Int.neg_nonneg_of_nonpos h); rwa [Int.neg_mul_neg] at this
  have p1 : 0 ≤ (1000 - a) * (1000 - b) := Int.mul_nonneg (by omega) (by omega)
  have p2 : 0 ≤ a * (1000 - b) := Int.mul_nonneg (by omega) (by omega)
  have p3 : 0 ≤ (1000 - a) * b := Int.mul_nonneg (by omega) (by omega)
  have p4 : 0 ≤ a * b := Int.mul_nonneg (by omega) (by omega)
  have q1 := Int.mul_nonneg p1 (show 0 ≤ 1000 * (3 * (k * k) + 3 * k + 1) by have := sq k; omega)
  have q2 := Int.mul_nonneg p2 (show 0 ≤ 1000 * (3 * ((4096 - k - k - 1) * (4096 - k - k - 1)) + 1) by have := sq (4096 - k - k - 1); omega)
  have q3 := Int.mul_nonneg p3 (show 0 ≤ 1000 * (6 * ((4096 - k) * k) + 3 * (4096 - k) - 3 * k - 2) by
    have : 1 * k ≤ (4096 - k) * k := Int.mul_le_mul_of_nonneg_right (by omega) hk.1
    omega)
  have q4 := Int.mul_nonneg p4 (show 0 ≤ 1000 * (3 * ((4096 - k) * (4096 - k)) - 3 * (4096 - k) + 1) by
    have : 1 * (4096 - k) ≤ (4096 - k) * (4096 - k) := Int.mul_le_mul_of_nonneg_right (by omega) (by omega)
    omega)
  omega

theorem bz_rise {a b k : Int} (ha : 0 ≤ a ∧ a ≤ 1000) (hb : 0 ≤ b ∧ b ≤ 1000) (hk : 0 ≤ k ∧ k < 4096) : bz a b k ≤ bz a b (k + 1) := Int.tdiv_le_tdiv (by decide) (bp_rise ha hb hk)

theorem bz_mono {a b : Int} (ha : 0 ≤ a ∧ a ≤ 1000) (hb : 0 ≤ b ∧ b ≤ 1000) {j k : Int} (hj : 0 ≤ j) (hjk : j ≤ k) (hk : k ≤ 4096) : bz a b j ≤ bz a b k := by
  obtain ⟨d, rfl⟩ : ∃ d : Nat, k = j + d := ⟨(k - j).toNat, by omega⟩
  induction d with
  | zero => simp
  | succ d ih =>
    have h1 := ih (by omega) (by omega)
    have h2 := bz_rise (k := j + d) ha hb (by omega)
    have : j + ((d + 1 : Nat) : Int) = j + d + 1 := by omega
    rw [this]
    omega

theorem bz_top (a b : Int) : bz a b 4096 = 1000 := by
  have : bp a b 4096 = 68719476736000 := by unfold bp; grind
  unfold bz; rw [this]; decide

/-- the least place where the curve reaches a time -/
def Least (a b t K : Int) : Prop := (0 ≤ K ∧ K ≤ 4096) ∧ t ≤ bz a b K ∧ ∀ j, 0 ≤ j → j < K → bz a b j < t

theorem least_exists (a b t : Int) (ht : t ≤ 1000) : ∃ K, Least a b t K := by
  obtain ⟨k, h1, h2⟩ := exists_least (p := fun k : Nat => k ≤ 4096 ∧ t ≤ bz a b k) ⟨4096, Nat.le_refl _, by
    show t ≤ bz a b 4096
    rw [bz_top]; exact ht⟩
  refine ⟨k, ⟨by omega, by omega⟩, h1.2, fun j hj hlt => Int.not_le.1 fun h => ?_⟩
  have := h2 j.toNat ⟨by omega, by rw [Int.toNat_of_nonneg hj]; exact h⟩
  omega

/-- the steps of the polynomial stay small -/
theorem bend_in {a b k : Int} (ha : 0 ≤ a ∧ a ≤ 1000) (hb : 0 ≤ b ∧ b ≤ 1000) (hk : 0 ≤ k ∧ k ≤ 4096) :
    let j := 4096 - k
    (0 ≤ 3 * j ∧ 3 * j ≤ 12288) ∧ (0 ≤ 3 * j * j ∧ 3 * j * j ≤ 50331648) ∧ (0 ≤ 3 * j * j * k ∧ 3 * j * j * k ≤ 206158430208) ∧ (0 ≤ 3 * j * j * k * a ∧ 3 * j * j * k * a ≤ 206158430208000) ∧
    (0 ≤ 3 * j * k ∧ 3 * j * k ≤ 50331648) ∧ (0 ≤ 3 * j * k * k ∧ 3 * j * k * k ≤ 206158430208) ∧ (0 ≤ 3 * j * k * k * b ∧ 3 * j * k * k * b ≤ 206158430208000) ∧
    (0 ≤ k * k ∧ k * k ≤ 16777216) ∧ (0 ≤ k * k * k ∧ k * k * k ≤ 68719476736) ∧ (0 ≤ bp a b k ∧ bp a b k ≤ 481036337152000) := by
  intro j
  have step : ∀ {x y m n : Int}, (0 ≤ x ∧ x ≤ m) → (0 ≤ y ∧ y ≤ n) → 0 ≤ x * y ∧ x * y ≤ m * n := fun hx hy => ⟨Int.mul_nonneg hx.1 hy.1, Int.mul_le_mul hx.2 hy.2 hy.1 (Int.le_trans hx.1 hx.2)⟩
  have hj : 0 ≤ j ∧ j ≤ 4096 := by show 0 ≤ 4096 - k ∧ 4096 - k ≤ 4096; omega
  have h1 : 0 ≤ 3 * j ∧ 3 * j ≤ 12288 := by omega
  have h2 := step h1 hj
  have h3 := step h2 hk
  have h4 := step h3 ha
  have h5 := step h1 hk
  have h6 := step h5 hk
  have h7 := step h6 hb
  have h8 := step hk hk
  have h9 := step h8 hk
  refine ⟨h1, h2, h3, h4, h5, h6, h7, h8, h9, ?_⟩
  have : bp a b k = 3 * j * j * k * a + 3 * j * k * k * b + k * k * k * 1000 := rfl
  rw [this]
  omega

/-- the polynomial as the machine makes it -/
theorem bend_wrap {a b k : Int} (ha : 0 ≤ a ∧ a ≤ 1000) (hb : 0 ≤ b ∧ b ≤ 1000) (hk : 0 ≤ k ∧ k ≤ 4096) :
    let W := IntKind.i64.wrap
    W ((W (W (W (W (W (W (3 * W (4096 - k)) * W (4096 - k)) * k) * a) + W (W (W (W (3 * W (4096 - k)) * k) * k) * b)) + W (W (W (k * k) * k) * 1000))).tdiv 68719476736) = bz a b k := by
  intro W
  obtain ⟨h1, h2, h3, h4, h5, h6, h7, h8, h9, h10⟩ := bend_in ha hb hk
  have e : ∀ {n : Int}, (0 ≤ n ∧ n ≤ 481036337152000) → W n = n := fun h => w64 (by omega) (by omega)
  rw [e (n := 4096 - k) (by omega), e (n := 3 * (4096 - k)) (by omega), e (n := 3 * (4096 - k) * (4096 - k)) (by omega), e (n := 3 * (4096 - k) * (4096 - k) * k) (by omega), e (n := 3 * (4096 - k) * (4096 - k) * k * a) (by omega),
    e (n := 3 * (4096 - k) * k) (by omega), e (n := 3 * (4096 - k) * k * k) (by omega), e (n := 3 * (4096 - k) * k * k * b) (by omega), e (n := k * k) (by omega), e (n := k * k * k) (by omega), e (n := k * k * k * 1000) (by omega),
    e (n := 3 * (4096 - k) * (4096 - k) * k * a + 3 * (4096 - k) * k * k * b) (by omega)]
  have hbp : 3 * (4096 - k) * (4096 - k) * k * a + 3 * (4096 - k) * k * k * b + k * k * k * 1000 = bp a b k := rfl
  rw [hbp, e h10]
  have : 0 ≤ bz a b k ∧ bz a b k ≤ 1000000 := by
    unfold bz
    have h := Int.tdiv_le_tdiv (c := 68719476736) (by decide) h10.2
    have h' := Int.tdiv_nonneg (b := 68719476736) h10.1 (by decide)
    have : (481036337152000 : Int).tdiv 68719476736 = 7000 := by decide
    omega
  exact e (by unfold bz at this; omega)
end Go.Proofs.YtgfcmhomndofaaaAv
