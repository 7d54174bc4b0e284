/- The text of a color: digits of sixteen. No program is in sight. -/
import Derived.Test.YtmpdhpfimmahfaaDoorCRefBColorTells
import Derived.Test.YtmpdhpfimmahfaaDoorBv45
namespace Go.Proofs.YtmpdhpfimmahfaaDoorBv
open Go
set_option linter.unusedSimpArgs false
set_option linter.unusedVariables false
/-- a digit of sixteen -/
def hxc (n : Nat) : UInt8 := if n < 10 then UInt8.ofNat (48 + n) else UInt8.ofNat (87 + n)
def digT : List UInt8 := [48, 49, 50, 51, 52, 53, 54, 55, 56, 57, 97, 98, 99, 100, 101, 102, 103, 104, 105, 106, 107, 108, 109, 110, 111, 112, 113, 114, 115, 116, 117, 118, 119, 120, 121, 122]
theorem digT_at {n : Nat} (h : n < 16) : at? digT (n : Int) = some (hxc n) := by
  have : ∀ i : Fin 16, at? digT ((i.val : Nat) : Int) = some (hxc i.val) := by decide
  exact this ⟨n, h⟩
def hexT (u : Nat) : List UInt8 := if u < 16 then [hxc u] else hexT (u / 16) ++ [hxc (u % 16)]
termination_by u
decreasing_by omega
theorem hexT_one {u : Nat} (h : u < 16) : hexT u = [hxc u] := by rw [hexT, if_pos h]
theorem hexT_step {u : Nat} (h : 16 ≤ u) : hexT u = hexT (u / 16) ++ [hxc (u % 16)] := by rw [hexT, if_neg (by omega)]
theorem and15 {u : Nat} (h : u < 18446744073709551616) : bitsV .and .u64 (u : Int) (wr .u64 ((wr .u64 16) - 1)) = ((u % 16 : Nat) : Int) := by
  have e0 : wr .u64 ((wr .u64 16) - 1) = 15 := by decide
  rw [e0]
  show wr .u64 (((BitVec.ofInt 64 (u : Int) &&& BitVec.ofInt 64 15).toNat : Nat) : Int) = _
  rw [BitVec.toNat_and]
  have e1 : (BitVec.ofInt 64 (u : Int)).toNat = u := by simp [BitVec.toNat_ofInt]; omega
  have e2 : (BitVec.ofInt 64 15).toNat = 2 ^ 4 - 1 := by decide
  rw [e1, e2, Nat.and_two_pow_sub_one_eq_mod, wr_u64]
  omega
theorem shr4 {u : Nat} : shr? .u64 (u : Int) (wr .u64 4) = some ((u / 16 : Nat) : Int) := by
  have e0 : wr .u64 4 = 4 := by decide
  rw [e0, shrq (by omega)]
  show some ((u : Int).fdiv (2 ^ (min 4 64))) = _
  rw [show (2 : Int) ^ (min 4 64) = 16 from rfl, Int.fdiv_eq_ediv_of_nonneg _ (by omega)]
  rfl
theorem set_drop {a : List Int} {i : Nat} (h0 : 0 < i) (h : i ≤ a.length) (v : Int) : (a.set (i - 1) v).drop (i - 1) = v :: a.drop i := by
  rw [List.drop_eq_getElem_cons (by rw [List.length_set]; omega), List.getElem_set_self, List.drop_set_of_lt (by omega), show i - 1 + 1 = i by omega]
theorem idx65_ok {i : Nat} (h0 : 0 < i) (h : i ≤ 65) : idxA? 65 (wi ((i : Int) - 1)) = some (i - 1) := by
  rw [wi_id (by omega) (by omega)]
  unfold idxA?
  rw [if_pos (by omega)]
  congr 1
  omega
/-- what is behind the loop: the last digit, and the text -/
noncomputable def lastK (u_3 : Int) (a_3 : List Int) (i_3 : Int) : Option ((List Int) × (List UInt8)) :=
        (at? ([48, 49, 50, 51, 52, 53, 54, 55, 56, 57, 97, 98, 99, 100, 101, 102, 103, 104, 105, 106, 107, 108, 109, 110, 111, 112, 113, 114, 115, 116, 117, 118, 119, 120, 121, 122] : List UInt8) u_3).bind fun c_1 =>
        (idxA? 65 (wi (i_3 - 1))).bind fun ix2 =>
        (setA? a_3 ix2 (c_1.toNat : Int)).bind fun arr2 =>
        internal_strconv_formatBits_j2 false false ([] : List Int) arr2 (wi (i_3 - 1))
theorem last_eq {u i : Nat} {a : List Int} {t : List UInt8} (hu : u < 16) (ha : a.length = 65) (h0 : 0 < i) (hi : i ≤ 65) (ht : a.drop i = ints t) : lastK (u : Int) a (i : Int) = some (([] : List Int), hexT u ++ t) := by
  unfold lastK
  rw [show at? ([48, 49, 50, 51, 52, 53, 54, 55, 56, 57, 97, 98, 99, 100, 101, 102, 103, 104, 105, 106, 107, 108, 109, 110, 111, 112, 113, 114, 115, 116, 117, 118, 119, 120, 121, 122] : List UInt8) (u : Int) = some (hxc u) from digT_at hu, Option.bind_some, idx65_ok h0 hi, Option.bind_some]
  unfold setA?
  rw [if_pos (by omega), Option.bind_some]
  unfold internal_strconv_formatBits_j2 internal_strconv_formatBits_j3
  rw [if_neg (by simp), if_neg (by simp)]
  unfold cutA?
  rw [wi_id (by omega) (by omega), if_pos (by rw [List.length_set]; omega), Option.bind_some, show ((65 : Int)).toNat = 65 from rfl, List.take_of_length_le (by rw [List.length_set]; omega), show ((i : Int) - 1).toNat = i - 1 by omega, set_drop h0 (by omega), ht, hexT_one hu]
  show some (_, byts (ints (hxc u :: t))) = _
  rw [byts_ints]
  rfl
theorem fb_l4 : ∀ (N u i : Nat) (a : List Int) (t : List UInt8), u < 16 ^ (N + 1) → u < 18446744073709551616 → a.length = 65 → N < i → i ≤ 65 → a.drop i = ints t → ∀ m,
    internal_strconv_formatBits_l4 16 4 ([] : List Int) false false lastK (m + N + 1) (u : Int) a (i : Int) = some (([] : List Int), hexT u ++ t)
  | 0, u, i, a, t, hu, h64, ha, h0, hi, ht => fun m => by
    rw [internal_strconv_formatBits_l4, if_neg (by rw [wr_u64]; simp only [decide_eq_true_eq]; omega)]
    exact last_eq (by simpa using hu) ha (by omega) hi ht
  | N + 1, u, i, a, t, hu, h64, ha, h0, hi, ht => fun m => by
    by_cases h16 : u < 16
    · rw [internal_strconv_formatBits_l4, if_neg (by rw [wr_u64]; simp only [decide_eq_true_eq]; omega)]
      exact last_eq h16 ha (by omega) hi ht
    · rw [internal_strconv_formatBits_l4, if_pos (by rw [wr_u64]; simp only [decide_eq_true_eq]; omega), and15 h64]
      rw [show at? ([48, 49, 50, 51, 52, 53, 54, 55, 56, 57, 97, 98, 99, 100, 101, 102, 103, 104, 105, 106, 107, 108, 109, 110, 111, 112, 113, 114, 115, 116, 117, 118, 119, 120, 121, 122] : List UInt8) ((u % 16 : Nat) : Int) = some (hxc (u % 16)) from digT_at (by omega), Option.bind_some, idx65_ok (by omega) hi, Option.bind_some]
      unfold setA?
      rw [if_pos (by omega), Option.bind_some, shr4, Option.bind_some, wi_id (by omega) (by omega), show (i : Int) - 1 = ((i - 1 : Nat) : Int) by omega, show m + (N + 1) = m + N + 1 by omega]
      have hp : u / 16 < 16 ^ (N + 1) := by rw [Nat.pow_succ] at hu; omega
      rw [fb_l4 N (u / 16) (i - 1) (a.set (i - 1) ((hxc (u % 16)).toNat : Int)) (hxc (u % 16) :: t) hp (by omega) (by rw [List.length_set]; exact ha) (by omega) (by omega) (by rw [set_drop (by omega) (by omega), ht]; rfl) m, hexT_step (u := u) (by omega), List.append_assoc]
      rfl
theorem tz16 : math_bits_TrailingZeros (wr .u64 16) = some 4 := by decide +kernel
theorem pow16 : internal_strconv_isPowerOfTwo 16 = true := by decide +kernel
theorem formatU (u : Nat) (h : u < 18446744073709551616) : strconv_FormatUint (u : Int) 16 = some (hexT u) := by
  unfold strconv_FormatUint internal_strconv_FormatUint internal_strconv_formatBits internal_strconv_formatBits_j1
  rw [if_neg (by decide), if_neg (by decide), if_neg (by decide), if_pos pow16, tz16, Option.bind_some, lim_add (c := some (([] : List Int), hexT u ++ [])) 16 fun m => ?_, Option.bind_some, Option.bind_some, List.append_nil]
  exact fb_l4 15 u 65 (List.replicate 65 0) [] (by omega) h (by simp) (by omega) (by omega) (by simp [ints]) m
/-- the color's text, of its four bytes -/
def ctextS (a b c d : Nat) : List UInt8 := [35, hxc (a / 16), hxc (a % 16), hxc (b / 16), hxc (b % 16), hxc (c / 16), hxc (c % 16)] ++ if d < 255 then [hxc (d / 16), hxc (d % 16)] else []
theorem tail_eq {d : Nat} (h : d < 256) : color_tail [hxc (d / 16), hxc (d % 16)] = if d < 255 then [hxc (d / 16), hxc (d % 16)] else [] := by
  have : ∀ i : Fin 256, color_tail [hxc (i.val / 16), hxc (i.val % 16)] = if i.val < 255 then [hxc (i.val / 16), hxc (i.val % 16)] else [] := by decide +kernel
  exact this ⟨d, h⟩
def byteN (c : Int) (i : Nat) : Nat := (byteC c i).toNat
theorem byteN_eq (c : Int) (i : Nat) : byteC c i = (byteN c i : Int) := by have := byteC_range c i; unfold byteN; omega
theorem byteN_lt (c : Int) (i : Nat) : byteN c i < 256 := by have := byteC_range c i; unfold byteN; omega
theorem ctext_eq (c : Int) : color_Text c = some (ctextS (byteN c 3) (byteN c 2) (byteN c 1) (byteN c 0)) := by
  have h0 : 0 ≤ c % 4294967296 ∧ c % 4294967296 < 4294967296 := by omega
  obtain ⟨v, hv⟩ : ∃ v : Nat, c % 4294967296 = v := ⟨(c % 4294967296).toNat, by omega⟩
  have hv2 : v < 4294967296 := by omega
  have b3 : byteN c 3 = v / 16777216 % 256 := by unfold byteN byteC; rw [hv]; simp only [Nat.reduceMul, Int.reducePow]; omega
  have b2 : byteN c 2 = v / 65536 % 256 := by unfold byteN byteC; rw [hv]; simp only [Nat.reduceMul, Int.reducePow]; omega
  have b1 : byteN c 1 = v / 256 % 256 := by unfold byteN byteC; rw [hv]; simp only [Nat.reduceMul, Int.reducePow]; omega
  have b0 : byteN c 0 = v % 256 := by unfold byteN byteC; rw [hv]; simp only [Nat.reduceMul, Int.reducePow]; omega
  unfold color_Text
  have e : wr .u64 ((wr .u64 (wr .u32 c)) + 4294967296) = ((v + 4294967296 : Nat) : Int) := by rw [wr_u32, hv, wr_u64, wr_u64]; omega
  rw [e, formatU _ (by omega), Option.bind_some]
  have ht : hexT (v + 4294967296) = [hxc 1, hxc (byteN c 3 / 16), hxc (byteN c 3 % 16), hxc (byteN c 2 / 16), hxc (byteN c 2 % 16), hxc (byteN c 1 / 16), hxc (byteN c 1 % 16), hxc (byteN c 0 / 16), hxc (byteN c 0 % 16)] := by
    rw [hexT_step (by omega), hexT_step (by omega), hexT_step (by omega), hexT_step (by omega), hexT_step (by omega), hexT_step (by omega), hexT_step (by omega), hexT_step (by omega), hexT_one (by omega)]
    simp only [List.cons_append, List.nil_append]
    rw [b3, b2, b1, b0]
    congr 1
    · congr 1; omega
    congr 1
    · congr 1; omega
    congr 1
    · congr 1; omega
    congr 1
    · congr 1; omega
    congr 1
    · congr 1; omega
    congr 1
    · congr 1; omega
    congr 1
    · congr 1; omega
    congr 1
    · congr 1; omega
    congr 1
    congr 1; omega
  rw [ht]
  generalize hxc 1 = z
  have tl := tail_eq (byteN_lt c 0)
  generalize byteN c 3 = x3 at *
  generalize byteN c 2 = x2 at *
  generalize byteN c 1 = x1 at *
  generalize byteN c 0 = x0 at *
  show ((some [hxc (x3 / 16), hxc (x3 % 16), hxc (x2 / 16), hxc (x2 % 16), hxc (x1 / 16), hxc (x1 % 16), hxc (x0 / 16), hxc (x0 % 16)]).bind _) = _
  rw [Option.bind_some]
  show ((some [hxc (x3 / 16), hxc (x3 % 16), hxc (x2 / 16), hxc (x2 % 16), hxc (x1 / 16), hxc (x1 % 16)]).bind _) = _
  rw [Option.bind_some, catq (by simp), Option.bind_some]
  show ((some [hxc (x0 / 16), hxc (x0 % 16)]).bind _) = _
  rw [Option.bind_some, tl, catq (by split <;> simp), Option.bind_some]
  rfl
def dig16 : List UInt8 := [48, 49, 50, 51, 52, 53, 54, 55, 56, 57, 97, 98, 99, 100, 101, 102]
theorem dig16_hi {n : Nat} (h : n < 256) : sub? dig16 (wi ((n : Int).tdiv 16)) (wi ((wi ((n : Int).tdiv 16)) + 1)) = some [hxc (n / 16)] ∧ sub? dig16 ((n : Int).tmod 16) (wi (((n : Int).tmod 16) + 1)) = some [hxc (n % 16)] := by
  have : ∀ i : Fin 256, sub? dig16 (wi (((i.val : Nat) : Int).tdiv 16)) (wi ((wi (((i.val : Nat) : Int).tdiv 16)) + 1)) = some [hxc (i.val / 16)] ∧ sub? dig16 (((i.val : Nat) : Int).tmod 16) (wi ((((i.val : Nat) : Int).tmod 16) + 1)) = some [hxc (i.val % 16)] := by decide +kernel
  exact this ⟨n, h⟩
theorem rct_step (c : Int) (K : List UInt8 → Option (List UInt8)) (k : Nat) (s : List UInt8) (i : Nat) (hi : i < 4) (hs : s.length ≤ 100) :
    clerestoryref2_ColorText_l0 c K (k + 1) s (i : Int) = clerestoryref2_ColorText_l0 c K k (s ++ if 0 < i ∨ byteN c i < 255 then [hxc (byteN c i / 16), hxc (byteN c i % 16)] else []) ((i : Int) - 1) := by
  obtain ⟨h1, h2⟩ := dig16_hi (byteN_lt c i)
  rw [clerestoryref2_ColorText_l0, if_pos (by simp only [decide_eq_true_eq]; omega), ref_byte c i hi, Option.bind_some, byteN_eq]
  unfold clerestoryref2_ColorText_j3
  rw [wi_id (n := (i : Int) - 1) (by omega) (by omega)]
  by_cases hc : 0 < i ∨ byteN c i < 255
  · rw [if_pos (by simp only [Bool.or_eq_true, decide_eq_true_eq]; omega), if_pos hc]
    show ((sub? dig16 _ _).bind _) = _
    rw [h1, Option.bind_some, catq (by simp; omega), Option.bind_some]
    show ((sub? dig16 _ _).bind _) = _
    rw [h2, Option.bind_some, catq (by simp; omega), Option.bind_some, List.append_assoc]
    rfl
  · rw [if_neg (by simp only [Bool.or_eq_true, decide_eq_true_eq]; omega), if_neg hc, List.append_nil]
theorem rctext_eq (c : Int) : clerestoryref2_ColorText c = some (ctextS (byteN c 3) (byteN c 2) (byteN c 1) (byteN c 0)) := by
  unfold clerestoryref2_ColorText
  refine lim_add 5 fun k => ?_
  have h3 := rct_step c (fun (s_1 : (List UInt8)) => some s_1) (k + 4) [35] 3 (by omega) (by simp)
  refine h3.trans ?_
  rw [if_pos (.inl (by omega)), show ((3 : Nat) : Int) - 1 = ((2 : Nat) : Int) from rfl, rct_step c _ (k + 3) _ 2 (by omega) (by simp), if_pos (.inl (by omega)), show ((2 : Nat) : Int) - 1 = ((1 : Nat) : Int) from rfl, rct_step c _ (k + 2) _ 1 (by omega) (by simp), if_pos (.inl (by omega)),
    show ((1 : Nat) : Int) - 1 = ((0 : Nat) : Int) from rfl, rct_step c _ (k + 1) _ 0 (by omega) (by simp), clerestoryref2_ColorText_l0, if_neg (by decide)]
  unfold ctextS
  by_cases hd : byteN c 0 < 255
  · rw [if_pos (.inr hd), if_pos hd]; rfl
  · rw [if_neg (by omega), if_neg hd]; rfl
end Go.Proofs.YtmpdhpfimmahfaaDoorBv
