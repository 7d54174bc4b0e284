/- Digits of sixteen as a color, the program's way. No program is in sight. -/
import Derived.Test.YtmpdhpfimmahfaaDoorCLowColorTells
namespace Go.Proofs.YtmpdhpfimmahfaaDoorBv
open Go
set_option linter.unusedSimpArgs false
set_option linter.unusedVariables false
theorem lowHex : ∀ c : UInt8, isHex c = true → 57 < c.toNat → internal_strconv_lower (c.toNat : Int) = (c.toNat : Int) := by
  intro c h1 h2
  have := u8_all (p := fun c => !(isHex c && decide (57 < c.toNat)) || decide (internal_strconv_lower (c.toNat : Int) = (c.toNat : Int))) (by decide +kernel) c
  simpa [h1, h2] using this
/-- what a byte counts in ParseUint: none: it is no digit at all -/
def puD (c : UInt8) : Option Int :=
  if ((decide (48 ≤ (c.toNat : Int))) && (decide ((c.toNat : Int) ≤ 57))) then some (wr .u8 ((c.toNat : Int) - 48))
  else if ((decide (97 ≤ (internal_strconv_lower (c.toNat : Int)))) && (decide ((internal_strconv_lower (c.toNat : Int)) ≤ 122))) then some (wr .u8 ((wr .u8 ((internal_strconv_lower (c.toNat : Int)) - 97)) + 10)) else none
theorem puD_hex {c : UInt8} (h : isHex c = true) : puD c = some (hexd c : Int) := by
  have := u8_all (p := fun c => !isHex c || decide (puD c = some (hexd c : Int))) (by decide +kernel) c
  simpa [h] using this
theorem puD_range {c : UInt8} {d : Int} (h : puD c = some d) : 0 ≤ d ∧ d < 256 := by
  unfold puD at h
  split at h
  · cases h; rw [wr_u8]; omega
  · split at h
    · cases h; rw [wr_u8]; omega
    · cases h
theorem r64 : shl? .u64 1 (wr .u64 64) = some 0 := by decide +kernel
/-- one step of ParseUint's loop -/
theorem pu_step (s s1 : List UInt8) (K : Bool → Int → Option (Int × Int)) (hl : s.length ≤ 140737488355328) {i : Nat} (h : i < s.length) (k : Nat) (n : Int) :
    internal_strconv_ParseUint_l0 s 16 16 s1 1152921504606846976 0 K (k + 1) false n (ints s) (i : Int) = match puD s[i] with
      | some d => internal_strconv_ParseUint_j21 16 1152921504606846976 n 0 (i : Int) 16 s1 s false (internal_strconv_ParseUint_l0 s 16 16 s1 1152921504606846976 0 K k) K d (ints s)
      | none => some (0, 2) := by
  rw [internal_strconv_ParseUint_l0, if_pos (by rw [ints_length]; simp only [decide_eq_true_eq]; omega), at_nat, ints_get, List.getElem?_eq_getElem h]
  simp only [Option.map_some, Option.bind_some]
  rw [if_neg (by simp)]
  unfold puD
  by_cases c1 : ((decide (48 ≤ (s[i].toNat : Int))) && (decide ((s[i].toNat : Int) ≤ 57))) = true
  · rw [if_pos c1, if_pos c1]
  · rw [if_neg c1, if_neg c1]
    by_cases c2 : ((decide (97 ≤ (internal_strconv_lower (s[i].toNat : Int)))) && (decide ((internal_strconv_lower (s[i].toNat : Int)) ≤ 122))) = true
    · rw [if_pos c2, if_pos c2]
    · rw [if_neg c2, if_neg c2]
theorem pu_any (s s1 : List UInt8) (K : Bool → Int → Option (Int × Int)) (hK : ∀ n, K false n = some (n, 0)) (hl : s.length ≤ 140737488355328) : ∀ (d i : Nat) (n : Int), i + d = s.length →
    ∃ (v : Int) (k : Int), (k = 0 ∨ k = 1 ∨ k = 2) ∧ ∀ m, internal_strconv_ParseUint_l0 s 16 16 s1 1152921504606846976 0 K (m + d + 1) false n (ints s) (i : Int) = some (v, k)
  | 0, i, n, hi => ⟨n, 0, .inl rfl, fun m => by
    rw [internal_strconv_ParseUint_l0, if_neg (by rw [ints_length]; simp only [decide_eq_true_eq]; omega), hK]⟩
  | d + 1, i, n, hi => by
    have h : i < s.length := by omega
    cases hp : puD s[i] with
    | none =>
      refine ⟨0, 2, .inr (.inr rfl), fun m => ?_⟩
      rw [pu_step s s1 K hl h, hp]
    | some e =>
      by_cases c1 : (16 : Int) ≤ e
      · refine ⟨0, 2, .inr (.inr rfl), fun m => ?_⟩
        rw [pu_step s s1 K hl h, hp]
        simp only []
        unfold internal_strconv_ParseUint_j21
        rw [if_pos (by rw [wr_u8]; simp only [decide_eq_true_eq]; omega)]
      · by_cases c2 : (1152921504606846976 : Int) ≤ n
        · refine ⟨wr .u64 ((0 : Int) - 1), 1, .inr (.inl rfl), fun m => ?_⟩
          rw [pu_step s s1 K hl h, hp]
          simp only []
          unfold internal_strconv_ParseUint_j21
          rw [if_neg (by rw [wr_u8]; simp only [decide_eq_true_eq]; omega), if_pos (by simpa using c2)]
        · cases c3 : (decide ((wr .u64 ((wr .u64 (n * (wr .u64 16))) + (wr .u64 e))) < (wr .u64 (n * (wr .u64 16)))) || decide ((wr .u64 ((0 : Int) - 1)) < (wr .u64 ((wr .u64 (n * (wr .u64 16))) + (wr .u64 e))))) with
          | true =>
            refine ⟨wr .u64 ((0 : Int) - 1), 1, .inr (.inl rfl), fun m => ?_⟩
            rw [pu_step s s1 K hl h, hp]
            simp only []
            unfold internal_strconv_ParseUint_j21
            rw [if_neg (by rw [wr_u8]; simp only [decide_eq_true_eq]; omega), if_neg (by simpa using c2), letIn_eq, if_pos c3]
          | false =>
            obtain ⟨v, k, hk, ih⟩ := pu_any s s1 K hK hl d (i + 1) (wr .u64 ((wr .u64 (n * (wr .u64 16))) + (wr .u64 e))) (by omega)
            refine ⟨v, k, hk, fun m => ?_⟩
            rw [pu_step s s1 K hl h, hp]
            simp only []
            unfold internal_strconv_ParseUint_j21 internal_strconv_ParseUint_j20
            rw [if_neg (by rw [wr_u8]; simp only [decide_eq_true_eq]; omega), if_neg (by simpa using c2), letIn_eq, if_neg (by rw [c3]; simp), wi_id (by omega) (by omega), show (i : Int) + 1 = ((i + 1 : Nat) : Int) by omega]
            exact ih m
theorem pu_val (s s1 : List UInt8) (K : Bool → Int → Option (Int × Int)) (hK : ∀ n, K false n = some (n, 0)) (hl : s.length ≤ 140737488355328) (hx : s.all isHex = true) : ∀ (d i n : Nat), i + d = s.length → hexF n (s.drop i) < 18446744073709551616 →
    ∀ m, internal_strconv_ParseUint_l0 s 16 16 s1 1152921504606846976 0 K (m + d + 1) false (n : Int) (ints s) (i : Int) = some ((hexF n (s.drop i) : Int), 0)
  | 0, i, n, hi, hb => fun m => by
    rw [internal_strconv_ParseUint_l0, if_neg (by rw [ints_length]; simp only [decide_eq_true_eq]; omega), hK, List.drop_eq_nil_of_le (by omega)]
    rfl
  | d + 1, i, n, hi, hb => fun m => by
    have h : i < s.length := by omega
    have hc : isHex s[i] = true := List.all_eq_true.1 hx _ (List.getElem_mem h)
    have hd := hexd_lt _ hc
    rw [List.drop_eq_getElem_cons h] at hb ⊢
    have hb' : hexF (16 * n + hexd s[i]) (s.drop (i + 1)) < 18446744073709551616 := hb
    have hge := hexF_ge (s.drop (i + 1)) (16 * n + hexd s[i])
    rw [pu_step s s1 K hl h, puD_hex hc]
    simp only []
    unfold internal_strconv_ParseUint_j21 internal_strconv_ParseUint_j20
    have e1 : wr .u64 (((n : Int)) * (wr .u64 16)) = ((16 * n : Nat) : Int) := by rw [wr_u64, wr_u64]; omega
    have e2 : wr .u64 ((hexd s[i] : Int)) = (hexd s[i] : Int) := by rw [wr_u64]; omega
    have e3 : wr .u64 (((16 * n : Nat) : Int) + (hexd s[i] : Int)) = ((16 * n + hexd s[i] : Nat) : Int) := by rw [wr_u64]; omega
    have e4 : wr .u64 ((0 : Int) - 1) = 18446744073709551615 := by rw [wr_u64]; rfl
    rw [e1, e2, e3, e4]
    rw [if_neg (by rw [wr_u8]; simp only [decide_eq_true_eq]; omega), if_neg (by simp only [decide_eq_true_eq]; omega), letIn_eq, if_neg (by simp; omega), wi_id (by omega) (by omega), show (i : Int) + 1 = ((i + 1 : Nat) : Int) by omega]
    exact pu_val s s1 K hK hl hx d (i + 1) (16 * n + hexd s[i]) (by omega) hb' m
theorem ipu_unf (s : List UInt8) (hs : s ≠ []) : internal_strconv_ParseUint s 16 64 = lim fun kk => internal_strconv_ParseUint_l0 s 16 16 s 1152921504606846976 0 (fun (underscores1 : Bool) (n_1 : Int) => 
      if underscores1 then
        (internal_strconv_underscoreOK s).bind fun r_1 =>
        internal_strconv_ParseUint_j22 n_1 (!r_1)
      else
        internal_strconv_ParseUint_j22 n_1 false) kk false 0 (ints s) 0 := by
  unfold internal_strconv_ParseUint internal_strconv_ParseUint_j7 internal_strconv_ParseUint_j8 internal_strconv_ParseUint_j9
  rw [if_neg (by simpa using hs), if_pos (by decide), if_neg (by decide), if_neg (by decide), if_neg (by decide), if_pos (by decide), r64, Option.bind_some]
theorem pu_some (s : List UInt8) (hl : s.length ≤ 140737488355328) : ∃ v e, strconv_ParseUint s 16 64 = some (v, e) := by
  have hi : ∃ (v k : Int), (k = 0 ∨ k = 1 ∨ k = 2) ∧ internal_strconv_ParseUint s 16 64 = some (v, k) := by
    by_cases hs : s = []
    · subst hs; exact ⟨0, 2, .inr (.inr rfl), rfl⟩
    · obtain ⟨v, k, hk, h⟩ := pu_any s s (fun (underscores1 : Bool) (n_1 : Int) => 
        if underscores1 then
          (internal_strconv_underscoreOK s).bind fun r_1 =>
          internal_strconv_ParseUint_j22 n_1 (!r_1)
        else
          internal_strconv_ParseUint_j22 n_1 false) (fun n => rfl) hl s.length 0 0 (by omega)
      exact ⟨v, k, hk, by rw [ipu_unf s hs]; exact lim_add (s.length + 1) h⟩
  obtain ⟨v, k, hk, h⟩ := hi
  unfold strconv_ParseUint
  rw [h, Option.bind_some]
  rcases hk with rfl | hk
  · exact ⟨v, false, by rw [if_neg (by simp)]⟩
  · refine ⟨v, true, ?_⟩
    rw [if_pos (by rcases hk with rfl | rfl <;> simp)]
    show (toError? _ s 16 64 k).bind _ = _
    unfold toError?
    rw [if_pos ⟨by omega, by omega⟩]
    rfl
theorem pu_hex (s : List UInt8) (hs : s ≠ []) (hl : s.length ≤ 140737488355328) (hx : s.all isHex = true) (hb : hexF 0 s < 18446744073709551616) : strconv_ParseUint s 16 64 = some ((hexF 0 s : Int), false) := by
  unfold strconv_ParseUint
  rw [ipu_unf s hs, lim_add (c := some ((hexF 0 s : Int), 0)) (s.length + 1) fun m => ?_, Option.bind_some, if_neg (by simp)]
  exact pu_val s s (fun (underscores1 : Bool) (n_1 : Int) => 
        if underscores1 then
          (internal_strconv_underscoreOK s).bind fun r_1 =>
          internal_strconv_ParseUint_j22 n_1 (!r_1)
        else
          internal_strconv_ParseUint_j22 n_1 false) (fun n => rfl) hl hx s.length 0 0 (by omega) (by rw [List.drop_zero]; exact hb) m
/-! ### color.hex -/
def dbl (l : List UInt8) : List UInt8 := l.flatMap fun c => [c, c]
theorem dbl_len (l : List UInt8) : (dbl l).length = 2 * l.length := by
  unfold dbl
  induction l with
  | nil => rfl
  | cons x r ih => simp [List.flatMap_cons, ih]; omega
theorem dbl_hex : ∀ l : List UInt8, (dbl l).all isHex = l.all isHex
  | [] => rfl
  | x :: r => by
    have := dbl_hex r
    unfold dbl at this ⊢
    simp only [List.flatMap_cons, List.cons_append, List.nil_append, List.all_cons, this]
    cases isHex x <;> simp
def hexG (n : Nat) (l : List UInt8) : Nat := l.foldl (fun n c => 256 * n + 17 * hexd c) n
theorem hexF_dbl : ∀ (l : List UInt8) (n : Nat), hexF n (dbl l) = hexG n l
  | [], n => rfl
  | x :: r, n => by
    have := hexF_dbl r (16 * (16 * n + hexd x) + hexd x)
    show hexF (16 * (16 * n + hexd x) + hexd x) (dbl r) = hexG (256 * n + 17 * hexd x) r
    rw [this]
    congr 1
    omega
theorem hexF_app (l : List UInt8) (n : Nat) : hexF n (l ++ [102, 102]) = 256 * hexF n l + 255 := by
  unfold hexF
  rw [List.foldl_append]
  show 16 * (16 * _ + hexd 102) + hexd 102 = _
  rw [show hexd 102 = 15 from rfl]
  omega
/-- the color that digits of sixteen tell -/
def hexS (s : List UInt8) : Option Nat :=
  if s.all isHex = true then
    if s.length = 3 then some (256 * hexG 0 s + 255) else if s.length = 4 then some (hexG 0 s) else if s.length = 6 then some (256 * hexF 0 s + 255) else if s.length = 8 then some (hexF 0 s) else none
  else none
theorem hex_l2 (s : List UInt8) (hl : s.length ≤ 1000) (K : List UInt8 → Option (Int × Bool)) : ∀ (d i : Nat), i + d = s.length → ∀ m, color_hex_l2 s K (m + d + 1) (dbl (s.take i)) (i : Int) = K (dbl s)
  | 0, i, hi => fun m => by
    rw [color_hex_l2, if_neg (by simp only [decide_eq_true_eq]; omega), List.take_of_length_le (by omega)]
  | d + 1, i, hi => fun m => by
    have h : i < s.length := by omega
    rw [color_hex_l2, if_pos (by simp only [decide_eq_true_eq]; omega), wi_id (by omega) (by omega), show (i : Int) + 1 = ((i + 1 : Nat) : Int) by omega, sub_oneB h, Option.bind_some]
    have e1 : strings_Repeat [s[i]] 2 = some [s[i], s[i]] := by
      show repeat? _ _ = _
      unfold repeat?
      rw [if_pos (by simp)]
      rfl
    have e2 : strings_Builder_WriteString (dbl (s.take i)) [s[i], s[i]] = some (dbl (s.take (i + 1))) := by
      show bWriteString? _ _ = _
      unfold bWriteString?
      rw [if_pos (by rw [dbl_len, List.length_take]; simp; omega)]
      congr 1
      rw [List.take_add_one, List.getElem?_eq_getElem h]
      unfold dbl
      rw [List.flatMap_append]
      rfl
    rw [e1, Option.bind_some, e2, Option.bind_some, show m + (d + 1) = m + d + 1 by omega]
    exact hex_l2 s hl K d (i + 1) (by omega) m
theorem hex_j2 (s : List UInt8) (hl : s.length ≤ 140737488355328) : ∃ x, color_hex_j2 s = some (x, decide (s.length = 8) && (color_hex_j2 s).any (·.2)) := by
  obtain ⟨v, e, h⟩ := pu_some s hl
  refine ⟨wr .i64 v, ?_⟩
  unfold color_hex_j2
  rw [h, Option.bind_some]
  simp only [Option.any_some]
  congr 2
  have : decide ((s.length : Int) = 8) = decide (s.length = 8) := by rw [Bool.eq_iff_iff]; simp; omega
  rw [this]
  cases e <;> cases decide (s.length = 8) <;> rfl
theorem hex_j2v (s : List UInt8) (h8 : s.length = 8) (hx : s.all isHex = true) : color_hex_j2 s = some ((hexF 0 s : Int), true) := by
  have hb := hexF_lt s 0 hx
  rw [h8] at hb
  unfold color_hex_j2
  rw [pu_hex s (by intro e; rw [e] at h8; cases h8) (by omega) hx (by omega), Option.bind_some]
  simp only [wr_i64, h8]
  rw [wi_id (by omega) (by omega)]
  simp
theorem hex_j2f (s : List UInt8) (hl : s.length ≤ 140737488355328) (h8 : s.length ≠ 8) : ∃ x, color_hex_j2 s = some (x, false) := by
  obtain ⟨x, h⟩ := hex_j2 s hl
  refine ⟨x, ?_⟩
  rw [h]
  simp [h8]
theorem hex_j1v (s : List UInt8) (hx : s.all isHex = true) (h : s.length = 6) : color_hex_j1 s = some (((256 * hexF 0 s + 255 : Nat) : Int), true) := by
  unfold color_hex_j1
  rw [if_pos (by simp only [decide_eq_true_eq]; omega), catq (by rw [h]; decide), Option.bind_some, hex_j2v _ (by rw [List.length_append, h]; rfl) (by rw [List.all_append, hx]; rfl), hexF_app]
theorem hex_j1w (s : List UInt8) (h : s.length ≠ 6) : color_hex_j1 s = color_hex_j2 s := by
  unfold color_hex_j1
  rw [if_neg (by simp only [decide_eq_true_eq]; omega)]
theorem chex_eq (s : List UInt8) (hl : s.length ≤ 140737488355328) : ∃ x, color_hex s = some (match hexS s with | some v => ((v : Int), true) | none => (x, false)) := by
  obtain ⟨r, h1, h2⟩ := trimHex s hl
  unfold color_hex
  rw [h1, Option.bind_some]
  unfold hexS
  by_cases hx : s.all isHex = true
  · rw [hx] at h2
    rw [if_neg (by simp [of_decide_eq_true h2]), if_pos hx]
    have hd : (dbl s).all isHex = true := by rw [dbl_hex]; exact hx
    by_cases h34 : s.length = 3 ∨ s.length = 4
    · rw [if_pos (by simp; omega), lim_add (c := color_hex_j1 (dbl s)) (s.length + 1) fun m => ?_]
      · rcases h34 with h3 | h4
        · refine ⟨0, ?_⟩
          rw [if_pos h3, hex_j1v _ hd (by rw [dbl_len]; omega), hexF_dbl]
        · refine ⟨0, ?_⟩
          rw [if_neg (by omega), if_pos h4, hex_j1w _ (by rw [dbl_len]; omega), hex_j2v _ (by rw [dbl_len]; omega) hd, hexF_dbl]
      · have := hex_l2 s (by omega) (fun b_1 => color_hex_j1 b_1) s.length 0 (by omega) m
        rw [← Nat.add_assoc]
        simpa [dbl] using this
    · rw [if_neg (by simp; omega), if_neg (by omega), if_neg (by omega)]
      by_cases h6 : s.length = 6
      · exact ⟨0, by rw [if_pos h6, hex_j1v _ hx h6]⟩
      · rw [if_neg h6, hex_j1w _ h6]
        by_cases h8 : s.length = 8
        · exact ⟨0, by rw [if_pos h8, hex_j2v _ h8 hx]⟩
        · obtain ⟨x, h⟩ := hex_j2f s hl h8
          exact ⟨x, by rw [if_neg h8, h]⟩
  · have hf : s.all isHex = false := by simpa using hx
    rw [hf] at h2
    exact ⟨0, by rw [if_pos (by simp [of_decide_eq_false h2]), if_neg hx]⟩
end Go.Proofs.YtmpdhpfimmahfaaDoorBv
