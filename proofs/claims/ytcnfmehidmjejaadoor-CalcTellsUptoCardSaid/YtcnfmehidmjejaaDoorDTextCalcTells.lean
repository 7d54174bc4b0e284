/- The law of the text of a number with a unit, over plain values. No program is in sight. -/
import Derived.Test.YtcnfmehidmjejaaDoorDig2CalcTells
import Derived.Test.YtcnfmehidmjejaaDoorBv25
import Derived.Test.YtcnfmehidmjejaaDoorBv36
namespace Go.Proofs.YtcnfmehidmjejaaDoorBv
open Go
set_option linter.unusedSimpArgs false
set_option linter.unusedVariables false
def t3 (r : Nat) : List UInt8 := [UInt8.ofNat (48 + r / 100), UInt8.ofNat (48 + r / 10 % 10), UInt8.ofNat (48 + r % 10)]
theorem dig4 (r : Nat) (h : r < 1000) : Lib.decDigits (1000 + r) = 49 :: t3 r := by
  have e1 : (1000 + r) / 10 = 100 + r / 10 := by omega
  have e2 : (100 + r / 10) / 10 = 10 + r / 100 := by omega
  rw [Lib.decDigits, dif_neg (by omega), e1, Lib.decDigits, dif_neg (by omega), e2, Lib.decDigits_two (by omega) (by omega)]
  have f1 : (10 + r / 100) / 10 = 1 := by omega
  have f2 : (10 + r / 100) % 10 = r / 100 := by omega
  have f3 : (100 + r / 10) % 10 = r / 10 % 10 := by omega
  have f4 : (1000 + r) % 10 = r % 10 := by omega
  rw [f1, f2, f3, f4]
  rfl
def trimT (r : Nat) : List UInt8 := Lib.trimRightS (t3 r) [48]
theorem t3_facts (r : Nat) (h : r < 1000) : ((r = 0) ↔ (trimT r = [])) ∧ (r ≠ 0 → ∃ c, c ∈ t3 r ∧ c ≠ 48) := by
  have : ∀ r : Fin 1000, decide (((r.val = 0) ↔ (trimT r.val = []))) = true ∧ (decide (r.val ≠ 0) = true → (t3 r.val).any (fun c => decide (c ≠ 48)) = true) := by decide +kernel
  obtain ⟨h1, h2⟩ := this ⟨r, h⟩
  refine ⟨of_decide_eq_true h1, fun h0 => ?_⟩
  obtain ⟨c, c1, c2⟩ := List.any_eq_true.1 (h2 (decide_eq_true h0))
  exact ⟨c, c1, of_decide_eq_true c2⟩
theorem trim_len (l : List UInt8) : (Lib.trimRightS l [48]).length ≤ l.length := by
  unfold Lib.trimRightS
  have := dropWhile_take (fun x => ([48] : List UInt8).contains x) l.reverse
  rw [List.length_reverse] at *
  have h2 : l.reverse.length = l.length := List.length_reverse
  omega
theorem trim_loop (d : TSDim) (r : List UInt8) (K : List UInt8 → Option (List UInt8)) : ∀ (n : Nat) (u : List UInt8), u.length = n → n ≤ 100 → (∃ c, c ∈ u ∧ c ≠ 48) → ∀ m, clerestoryref2_DimText_l2 d r K (m + n + 1) u = K (Lib.trimRightS u [48])
  | 0, u, hu, hn, ⟨c, hc, _⟩, m => by
    rw [List.length_eq_zero_iff.1 hu] at hc
    cases hc
  | n + 1, u, hu, hn, ⟨c, hc, h48⟩, m => by
    obtain ⟨v, x, rfl⟩ : ∃ v x, u = v ++ [x] := ⟨u.dropLast, u.getLast (by intro h; rw [h] at hu; simp at hu), (List.dropLast_concat_getLast (by intro h; rw [h] at hu; simp at hu)).symm⟩
    have hv : v.length = n := by simpa using hu
    have el : wi (((v ++ [x]).length : Int) - 1) = (v.length : Int) := by
      rw [wi_id (by simp only [List.length_append, List.length_singleton]; omega) (by simp only [List.length_append, List.length_singleton]; omega)]
      simp
    have e1 : at? (v ++ [x]) (v.length : Int) = some x := by
      rw [at_nat, List.getElem?_append_right (Nat.le_refl _)]
      simp
    have e2 : sub? (v ++ [x]) 0 (v.length : Int) = some v := by
      rw [sub_take (by simp)]
      congr 1
      rw [List.take_left]
    rw [show m + (n + 1) + 1 = (m + n + 1) + 1 by omega, clerestoryref2_DimText_l2, el, e1, Option.bind_some]
    have et : Lib.trimRightS (v ++ [x]) [48] = if x = 48 then Lib.trimRightS v [48] else v ++ [x] := by
      unfold Lib.trimRightS
      rw [List.reverse_append, List.reverse_singleton, List.singleton_append, List.dropWhile_cons]
      by_cases hx : x = 48
      · rw [if_pos (by simp [hx]), if_pos hx]
      · rw [if_neg (by simp [hx]), if_neg hx, List.reverse_cons, List.reverse_reverse]
    by_cases hx : x = 48
    · rw [et, if_pos hx, if_pos (by rw [hx]; rfl), e2, Option.bind_some]
      refine trim_loop d r K n v hv (by omega) ⟨c, ?_, h48⟩ m
      rcases List.mem_append.1 hc with h | h
      · exact h
      · simp at h; rw [h, hx] at h48; exact absurd rfl h48
    · have : ¬ (x.toNat : Int) = 48 := by
        intro h
        apply hx
        have h2 : x.toNat = 48 := by omega
        rw [← UInt8.ofNat_toNat (x := x), h2]
        rfl
      rw [et, if_neg hx, if_neg (by simpa using this)]
def bodyF (a : Nat) : List UInt8 := Lib.decDigits (a / 1000) ++ (if a % 1000 = 0 then [] else 46 :: trimT (a % 1000))
theorem trimT_len (r : Nat) : (trimT r).length ≤ 3 := trim_len (t3 r)
theorem itoa_nat (n : Nat) (h : n ≤ 1000000000000) : strconv_Itoa (n : Int) = some (Lib.decDigits n) := by
  show itoa? _ = _
  unfold itoa?
  rw [show Lib.itoa (n : Int) = Lib.decDigits n by unfold Lib.itoa; rw [if_neg (by omega)]; simp]
  first
    | rfl
    | exact if_pos (by omega)
theorem prog_eq (d : TSDim) (hu : d.Unit.length ≤ 140737488355328) (a : Nat) (ha : a ≤ 1000000000) (sign : List UInt8) (hs : sign.length ≤ 1) : dim_Text1_j1 d (a : Int) sign = some (sign ++ bodyF a ++ d.Unit) := by
  have q1 : (a : Int).tdiv 1000 = ((a / 1000 : Nat) : Int) := by rw [Int.tdiv_eq_ediv_of_nonneg (by omega)]; omega
  have q2 : (a : Int).tmod 1000 = ((a % 1000 : Nat) : Int) := by rw [Int.tmod_eq_emod_of_nonneg (by omega)]; omega
  have ld := Lib.nDigits_le20 (a / 1000) (by omega)
  rw [← Lib.decDigits_length] at ld
  have lt := trimT_len (a % 1000)
  have hr : a % 1000 < 1000 := Nat.mod_lt _ (by omega)
  unfold dim_Text1_j1 dim_Text1_j2
  rw [q1, q2, wi_id (n := ((a / 1000 : Nat) : Int)) (by omega) (by omega), itoa_nat _ (by omega), Option.bind_some, catq (by omega), Option.bind_some, wi_id (by omega) (by omega), show (1000 : Int) + ((a % 1000 : Nat) : Int) = ((1000 + a % 1000 : Nat) : Int) by omega, itoa_nat _ (by omega), Option.bind_some, dig4 _ hr]
  have e1 : sub? (49 :: t3 (a % 1000)) 1 ((49 :: t3 (a % 1000)).length : Int) = some (t3 (a % 1000)) := by
    have := sub_drop (l := 49 :: t3 (a % 1000)) (a := 1) (by simp)
    exact this
  have e2 : strings_TrimRight (t3 (a % 1000)) [48] = some (trimT (a % 1000)) := by
    show trimRight? _ _ = _
    unfold trimRight?
    rw [if_pos ⟨by show 3 ≤ 9223372036854775807; omega, by decide, by decide⟩]
    rfl
  rw [e1, Option.bind_some, e2, Option.bind_some]
  unfold bodyF
  by_cases h0 : a % 1000 = 0
  · have ht := ((t3_facts _ hr).1).1 h0
    rw [if_neg (by simp [ht]), if_pos h0, catq (by simp; omega), Option.bind_some, List.append_nil]
  · have ht : ¬ trimT (a % 1000) = [] := fun h => h0 (((t3_facts _ hr).1).2 h)
    rw [if_pos (by simp [ht]), if_neg h0, catq (by simp; omega), Option.bind_some, catq (by simp; omega), Option.bind_some, catq (by simp; omega), Option.bind_some]
    simp
theorem ref_eq (d : TSDim) (hu : d.Unit.length ≤ 140737488355328) (n : Int) (hn : mx (-1000000000) (mn d.Num 1000000000) = n) (a : Nat) (ha : a ≤ 1000000000) (hna : mx n (wi (0 - n)) = (a : Int)) : clerestoryref2_DimText d = some ((if n < 0 then [45] else []) ++ bodyF a ++ d.Unit) := by
  have q1 : (a : Int).tdiv 1000 = ((a / 1000 : Nat) : Int) := by rw [Int.tdiv_eq_ediv_of_nonneg (by omega)]; omega
  have q2 : (a : Int).tmod 1000 = ((a % 1000 : Nat) : Int) := by rw [Int.tmod_eq_emod_of_nonneg (by omega)]; omega
  have ld := Lib.nDigits_le20 (a / 1000) (by omega)
  rw [← Lib.decDigits_length] at ld
  have lt := trimT_len (a % 1000)
  have hr : a % 1000 < 1000 := Nat.mod_lt _ (by omega)
  have hj : ∀ s : List UInt8, s.length ≤ 100 → clerestoryref2_DimText_j1 d s = some ((if n < 0 then [45] else []) ++ s ++ d.Unit) := by
    intro s hs
    unfold clerestoryref2_DimText_j1 clerestoryref2_DimText_j2
    rw [hn]
    by_cases h : n < 0
    · rw [if_pos (by simpa using h), if_pos h, catq (by simp; omega), Option.bind_some, catq (by simp; omega), Option.bind_some]
    · rw [if_neg (by simpa using h), if_neg h, catq (by omega), Option.bind_some, List.nil_append]
  unfold clerestoryref2_DimText
  rw [hn, hna, letIn_eq, q1, wi_id (n := ((a / 1000 : Nat) : Int)) (by omega) (by omega), digits2_eq _ (by omega), Option.bind_some, letIn_eq, q2]
  unfold bodyF
  by_cases h0 : a % 1000 = 0
  · rw [if_neg (by simp [h0]), if_pos h0, hj _ (by omega), List.append_nil]
  · rw [if_pos (by simp only [decide_eq_true_eq]; omega), if_neg h0, wi_id (by omega) (by omega), show (1000 : Int) + ((a % 1000 : Nat) : Int) = ((1000 + a % 1000 : Nat) : Int) by omega, digits2_eq _ (by omega), Option.bind_some, dig4 _ hr]
    have e1 : sub? (49 :: t3 (a % 1000)) 1 ((49 :: t3 (a % 1000)).length : Int) = some (t3 (a % 1000)) := by
      have := sub_drop (l := 49 :: t3 (a % 1000)) (a := 1) (by simp)
      exact this
    rw [e1, Option.bind_some]
    refine lim_add 4 fun m => ?_
    refine (trim_loop d (Lib.decDigits (a / 1000)) _ 3 (t3 (a % 1000)) rfl (by omega) ((t3_facts _ hr).2 h0) m).trans ?_
    show (cat? (Lib.decDigits (a / 1000)) [46]).bind (fun r_6 => (cat? r_6 (trimT (a % 1000))).bind fun r_7 => clerestoryref2_DimText_j1 d r_7) = _
    rw [catq (by simp; omega), Option.bind_some, catq (by simp; omega), Option.bind_some, hj _ (by simp; omega)]
    simp
theorem clamp_eq (N : Int) : ∃ n : Int, mn (mx N (-1000000000)) 1000000000 = n ∧ mx (-1000000000) (mn N 1000000000) = n ∧ -1000000000 ≤ n ∧ n ≤ 1000000000 := by
  refine ⟨mn (mx N (-1000000000)) 1000000000, rfl, ?_⟩
  unfold mn mx
  repeat' split
  all_goals omega
theorem dtext_eq (d : TSDim) (hu : d.Unit.length ≤ 140737488355328) : ∃ s, dim_Text1 d = some s ∧ clerestoryref2_DimText d = some s := by
  obtain ⟨n, n1, n2, n3, n4⟩ := clamp_eq d.Num
  have habs : mx n (wi (0 - n)) = (n.natAbs : Int) := by
    rw [wi_id (by omega) (by omega)]
    unfold mx
    split <;> omega
  have href := ref_eq d hu n n2 n.natAbs (by omega) habs
  refine ⟨_, ?_, href⟩
  unfold dim_Text1
  rw [n1]
  by_cases h : n < 0
  · rw [if_pos (by simpa using h), if_pos h, wi_id (by omega) (by omega), show 0 - n = (n.natAbs : Int) by omega, prog_eq d hu _ (by omega) _ (by simp)]
  · have := prog_eq d hu n.natAbs (by omega) [] (by simp)
    rw [show (n.natAbs : Int) = n by omega] at this
    rw [if_neg (by simpa using h), if_neg h, this]
end Go.Proofs.YtcnfmehidmjejaaDoorBv
