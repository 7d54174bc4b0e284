/- The law of marks, over plain values. No program is in sight. -/
import Derived.Test.YtagfmlkihindaaaDoorSig2CountMarks
import Derived.Test.YtagfmlkihindaaaDoorRevCountMarks
import Derived.Test.YtagfmlkihindaaaDoorUpperCountMarks
namespace Go.Proofs.YtagfmlkihindaaaDoorBv
open Go
set_option linter.unusedSimpArgs false
set_option linter.unusedVariables false
/-! ### letters -/
def lett (n : Nat) : List UInt8 := if h : n = 0 then [] else lett ((n - 1) / 26) ++ [UInt8.ofNat (97 + (n - 1) % 26)]
termination_by n
decreasing_by omega
def lrev (n : Nat) : List Int := if h : n = 0 then [] else ((97 + (n - 1) % 26 : Nat) : Int) :: lrev ((n - 1) / 26)
termination_by n
decreasing_by omega
theorem lrev_pos {n : Nat} (h : n ≠ 0) : lrev n = ((97 + (n - 1) % 26 : Nat) : Int) :: lrev ((n - 1) / 26) := by rw [lrev, dif_neg h]
theorem lett_pos {n : Nat} (h : n ≠ 0) : lett n = lett ((n - 1) / 26) ++ [UInt8.ofNat (97 + (n - 1) % 26)] := by rw [lett, dif_neg h]
theorem lrev_zero : lrev 0 = [] := by rw [lrev, dif_pos rfl]
theorem lett_zero : lett 0 = [] := by rw [lett, dif_pos rfl]
theorem lrev_len (n : Nat) : (lrev n).length ≤ n := by
  induction n using Nat.strongRecOn with
  | _ n ih =>
    by_cases h : n = 0
    · subst h; rw [lrev_zero]; simp
    · rw [lrev_pos h, List.length_cons]
      have := ih ((n - 1) / 26) (by omega)
      omega
theorem lrev_lett (n : Nat) : byts (lrev n).reverse = lett n := by
  induction n using Nat.strongRecOn with
  | _ n ih =>
    by_cases h : n = 0
    · subst h; rw [lrev_zero, lett_zero]; rfl
    · rw [lrev_pos h, lett_pos h, List.reverse_cons, ← ih ((n - 1) / 26) (by omega)]
      unfold byts
      rw [List.map_append]
      rfl
theorem lett_ascii (n : Nat) : ∀ c, c ∈ lett n → c.toNat < 128 := by
  induction n using Nat.strongRecOn with
  | _ n ih =>
    by_cases h : n = 0
    · subst h; rw [lett_zero]; intro c hc; cases hc
    · rw [lett_pos h]
      intro c hc
      rcases List.mem_append.1 hc with hc | hc
      · exact ih _ (by omega) c hc
      · rw [List.mem_singleton] at hc
        subst hc
        rw [UInt8.toNat_ofNat']
        omega
theorem lett_len (n : Nat) : (lett n).length ≤ n := by
  have := lrev_len n
  rw [← lrev_lett, byts_length, List.length_reverse]
  exact this
theorem letters_loop (K : List Int → Option (List UInt8)) : ∀ (d n : Nat) (out : List Int), n ≤ d → n ≤ 1000000 → out.length + n ≤ 1000000 → ∀ m, count_letters_l0 K (m + d + 1) (n : Int) out = K (out ++ lrev n)
  | d, 0, out, hd, hn, ho, m => by
    rw [count_letters_l0, if_neg (by simp), lrev_zero, List.append_nil]
  | 0, n + 1, out, hd, hn, ho, m => by omega
  | d + 1, n + 1, out, hd, hn, ho, m => by
    have e1 : ((n + 1 : Nat) : Int) - 1 = (n : Int) := by omega
    have h1 : ((n : Int)).tdiv 26 = ((n / 26 : Nat) : Int) := by rw [Int.tdiv_eq_ediv_of_nonneg (by omega)]; omega
    have h2 : ((n : Int)).tmod 26 = ((n % 26 : Nat) : Int) := by rw [Int.tmod_eq_emod_of_nonneg (by omega)]; omega
    have ih := letters_loop K d (n / 26) (out ++ [((97 + n % 26 : Nat) : Int)]) (by omega) (by omega) (by simp; omega) m
    rw [count_letters_l0, if_pos (by simp only [decide_eq_true_eq]; omega), e1, wi_id (n := (n : Int)) (by omega) (by omega), h1, h2, wi_id (by omega) (by omega), wi_id (by omega) (by omega), wr_u8,
      show (97 + ((n % 26 : Nat) : Int)) % 256 = ((97 + n % 26 : Nat) : Int) by omega, appq (by simp; omega), Option.bind_some, show m + (d + 1) = m + d + 1 by omega, ih, lrev_pos (Nat.succ_ne_zero n)]
    simp
theorem letters_eq (n : Nat) (hn : n ≤ 1000000) : count_letters (n : Int) = some (lett n) := by
  unfold count_letters
  refine lim_add (n + 1) fun m => ?_
  have hl := lrev_len n
  rw [← Nat.add_assoc, letters_loop _ n n [] (Nat.le_refl _) hn (by simpa using hn) m, List.nil_append, reverse_eq _ (by omega), Option.bind_some]
  unfold guardLen
  rw [if_pos (by simp), lrev_lett]
theorem letter_piece (k : Nat) (h : k < 26) : sub? ([97, 98, 99, 100, 101, 102, 103, 104, 105, 106, 107, 108, 109, 110, 111, 112, 113, 114, 115, 116, 117, 118, 119, 120, 121, 122] : List UInt8) (k : Int) (wi ((k : Int) + 1)) = some [UInt8.ofNat (97 + k)] := by
  have hall : ∀ m : Fin 26, sub? ([97, 98, 99, 100, 101, 102, 103, 104, 105, 106, 107, 108, 109, 110, 111, 112, 113, 114, 115, 116, 117, 118, 119, 120, 121, 122] : List UInt8) (m.val : Int) (wi ((m.val : Int) + 1)) = some [UInt8.ofNat (97 + m.val)] := by decide +kernel
  exact hall ⟨k, h⟩
theorem lettersOf_loop : ∀ (d n : Nat), n ≤ d → n ≤ 1000000 → ∀ m, clerestoryref2_LettersOf_r (m + d + 1) (n : Int) = some (lett n)
  | d, 0, _, _, m => by
    rw [clerestoryref2_LettersOf_r, if_pos (by simp), lett_zero]
  | 0, n + 1, h, _, m => by omega
  | d + 1, n + 1, hd, hn, m => by
    have e1 : ((n + 1 : Nat) : Int) - 1 = (n : Int) := by omega
    have h1 : ((n : Int)).tdiv 26 = ((n / 26 : Nat) : Int) := by rw [Int.tdiv_eq_ediv_of_nonneg (by omega)]; omega
    have h2 : ((n : Int)).tmod 26 = ((n % 26 : Nat) : Int) := by rw [Int.tmod_eq_emod_of_nonneg (by omega)]; omega
    have ih := lettersOf_loop d (n / 26) (by omega) (by omega) m
    have hl := lett_len (n / 26)
    rw [clerestoryref2_LettersOf_r, if_neg (by simp only [decide_eq_true_eq]; omega), e1, wi_id (n := (n : Int)) (by omega) (by omega), h1, h2, letter_piece _ (Nat.mod_lt _ (by decide)), Option.bind_some, wi_id (by omega) (by omega),
      show m + (d + 1) = m + d + 1 by omega, ih, Option.bind_some, catq (by simp; omega), Option.bind_some, lett_pos (Nat.succ_ne_zero n)]
    rfl
theorem lettersOf_eq (n : Nat) (hn : n ≤ 1000000) : clerestoryref2_LettersOf (n : Int) = some (lett n) := by
  unfold clerestoryref2_LettersOf
  exact lim_add (n + 1) fun m => lettersOf_loop n n (Nat.le_refl _) hn m
/-! ### Roman digits -/
def romG : List (Nat × List UInt8) → Nat → List UInt8
  | [], _ => []
  | p :: r, n => (List.replicate (n / p.1) p.2).flatten ++ romG r (n % p.1)
def romL : List (Nat × List UInt8) := [(1000, [109]), (900, [99, 109]), (500, [100]), (400, [99, 100]), (100, [99]), (90, [120, 99]), (50, [108]), (40, [120, 108]), (10, [120]), (9, [105, 120]), (5, [118]), (4, [105, 118]), (1, [105])]
def romT (n : Nat) : List UInt8 := (([[], [109], [109, 109], [109, 109, 109]] : List (List UInt8)).getD (n / 1000) []) ++ (clerestoryref2_RomanOf_t2.getD (n / 100 % 10) []) ++ (clerestoryref2_RomanOf_t1.getD (n / 10 % 10) []) ++ (clerestoryref2_RomanOf_t0.getD (n % 10) [])
theorem rom_all : ((List.range 4000).all fun n => decide (romG romL n = romT n)) = true := by decide +kernel
theorem rom_eq (n : Nat) (h : n < 4000) : romG romL n = romT n := by
  have := List.all_eq_true.1 rom_all n (List.mem_range.2 h)
  simpa using this
theorem roman_l3 (v : Nat) (s : List UInt8) (hv : 1 ≤ v) (hs : s.length ≤ 2) (v20 : Int) (K : Int → List UInt8 → Option (List UInt8)) : ∀ (d n : Nat) (b : List UInt8), n ≤ d → n ≤ 1000000 → b.length + 2 * n ≤ 1000000 → ∀ m,
    count_roman_l3 ⟨(v : Int), s⟩ v20 K (m + d + 1) (n : Int) b = K ((n % v : Nat) : Int) (b ++ (List.replicate (n / v) s).flatten)
  | d, n, b, hd, hn, hb, m => by
    by_cases h : v ≤ n
    · obtain ⟨e, rfl⟩ : ∃ e, d = e + 1 := ⟨d - 1, by omega⟩
      have ih := roman_l3 v s hv hs v20 K e (n - v) (b ++ s) (by omega) (by omega) (by rw [List.length_append]; omega) m
      rw [count_roman_l3, if_pos (by simp only [decide_eq_true_eq]; omega)]
      show (bWriteString? b s).bind _ = _
      unfold bWriteString?
      rw [if_pos (by omega), Option.bind_some, show (n : Int) - (v : Int) = ((n - v : Nat) : Int) by omega, wi_id (by omega) (by omega), show m + (e + 1) = m + e + 1 by omega, ih]
      have e1 : n / v = (n - v) / v + 1 := Nat.div_eq_sub_div (by omega) h
      have e2 : n % v = (n - v) % v := (Nat.mod_eq_sub_mod h)
      rw [e1, e2, List.replicate_succ, List.flatten_cons, List.append_assoc]
    · rw [count_roman_l3, if_neg (by simp only [decide_eq_true_eq]; omega), Nat.mod_eq_of_lt (by omega), Nat.div_eq_of_lt (by omega)]
      simp
def romI (x : Tanon) : Nat × List UInt8 := (x.f_n.toNat, x.f_s)
theorem roman_l2 (K : List UInt8 → Option (List UInt8)) : ∀ (d j n : Nat) (b : List UInt8), j + d = 13 → n ≤ 4000 → b.length + 2 * n ≤ 10000 → ∀ m,
    count_roman_l2 K (m + d + 1) (n : Int) b (j : Int) = K (b ++ romG ((count_roman_t1.drop j).map romI) n)
  | 0, j, n, b, hj, hn, hb, m => by
    obtain rfl : j = 13 := by omega
    rw [count_roman_l2, if_neg (by decide)]
    show K b = K (b ++ [])
    rw [List.append_nil]
  | d + 1, j, n, b, hj, hn, hb, m => by
    have hlen : count_roman_t1.length = 13 := rfl
    have h : j < count_roman_t1.length := by omega
    have hall : ∀ x, x ∈ count_roman_t1 → 1 ≤ x.f_n ∧ x.f_s.length ≤ 2 := by decide
    obtain ⟨x1, x2⟩ := hall _ (List.getElem_mem h)
    obtain ⟨v, hv⟩ : ∃ v : Nat, count_roman_t1[j].f_n = v := ⟨count_roman_t1[j].f_n.toNat, by omega⟩
    have ex : count_roman_t1[j] = (⟨(v : Int), count_roman_t1[j].f_s⟩ : Tanon) := by rw [← hv]
    have hcount : ∀ q : Nat, q * v ≤ n → q * 1 ≤ n := fun q hq => Nat.le_trans (Nat.mul_le_mul_left q (by omega)) hq
    have hq : n / v ≤ n := Nat.div_le_self n v
    have hflat : ((List.replicate (n / v) count_roman_t1[j].f_s).flatten).length + 2 * (n % v) ≤ 2 * n := by
      rw [List.length_flatten, List.map_replicate, List.sum_replicate_nat]
      have e := Nat.div_add_mod n v
      have e2 : n / v * count_roman_t1[j].f_s.length ≤ n / v * 2 := Nat.mul_le_mul_left _ x2
      have e3 : n / v * 1 ≤ v * (n / v) := by rw [Nat.mul_comm v]; exact Nat.mul_le_mul_left _ (by omega)
      omega
    have hm : n % v ≤ n := Nat.mod_le n v
    rw [count_roman_l2, if_pos (by simp only [decide_eq_true_eq]; omega), at_some h, Option.bind_some]
    refine lim_add (n + 1) fun k => ?_
    rw [show k + (n + 1) = k + n + 1 from rfl, ex, roman_l3 v _ (by omega) x2 _ _ n n b (Nat.le_refl _) (by omega) (by omega) k, wi_id (by omega) (by omega), show (j : Int) + 1 = ((j + 1 : Nat) : Int) by omega, show m + (d + 1) = m + d + 1 by omega,
      roman_l2 K d (j + 1) (n % v) _ (by omega) (by omega) (by rw [List.length_append]; omega) m, List.drop_eq_getElem_cons h, List.map_cons, romG]
    have e : romI count_roman_t1[j] = (v, count_roman_t1[j].f_s) := by unfold romI; rw [hv]; simp
    rw [e, List.append_assoc]
theorem roman_eq (n : Nat) (hn : n < 4000) : count_roman (n : Int) = some (romG romL n) := by
  unfold count_roman
  refine lim_add 14 fun m => ?_
  have := roman_l2 (fun b_1 => some b_1) 13 0 n [] rfl (by omega) (by simp; omega) m
  exact this
theorem romanOf_eq (n : Nat) (hn : n < 4000) : clerestoryref2_RomanOf (n : Int) = some (romT n) := by
  have e1 : ((n : Int)).tdiv 1000 = ((n / 1000 : Nat) : Int) := by rw [Int.tdiv_eq_ediv_of_nonneg (by omega)]; omega
  have e2 : ((n : Int)).tdiv 100 = ((n / 100 : Nat) : Int) := by rw [Int.tdiv_eq_ediv_of_nonneg (by omega)]; omega
  have e3 : ((n : Int)).tdiv 10 = ((n / 10 : Nat) : Int) := by rw [Int.tdiv_eq_ediv_of_nonneg (by omega)]; omega
  have e4 : ((n / 100 : Nat) : Int).tmod 10 = ((n / 100 % 10 : Nat) : Int) := by rw [Int.tmod_eq_emod_of_nonneg (by omega)]; omega
  have e5 : ((n / 10 : Nat) : Int).tmod 10 = ((n / 10 % 10 : Nat) : Int) := by rw [Int.tmod_eq_emod_of_nonneg (by omega)]; omega
  have e6 : ((n : Int)).tmod 10 = ((n % 10 : Nat) : Int) := by rw [Int.tmod_eq_emod_of_nonneg (by omega)]; omega
  have g : ∀ (l : List (List UInt8)) (k : Nat), k < l.length → at? l (k : Int) = some (l.getD k []) := fun l k h => by rw [at_some h]; simp [List.getD, h]
  have b0 : ∀ k, (([[], [109], [109, 109], [109, 109, 109]] : List (List UInt8)).getD k []).length ≤ 4 := by
    intro k
    match k with
    | 0 | 1 | 2 | 3 => decide
    | k + 4 => simp
  have b1 : ∀ (l : List (List UInt8)), (∀ x, x ∈ l → x.length ≤ 4) → ∀ k, (l.getD k []).length ≤ 4 := by
    intro l hl k
    rw [List.getD_eq_getElem?_getD]
    cases hk : l[k]? with
    | none => simp
    | some x => exact hl x (List.mem_of_getElem? hk)
  have c2 := b1 clerestoryref2_RomanOf_t2 (by decide) (n / 100 % 10)
  have c1 := b1 clerestoryref2_RomanOf_t1 (by decide) (n / 10 % 10)
  have c0 := b1 clerestoryref2_RomanOf_t0 (by decide) (n % 10)
  have c3 := b0 (n / 1000)
  unfold clerestoryref2_RomanOf romT
  rw [e1, e2, e3, wi_id (by omega) (by omega), wi_id (by omega) (by omega), wi_id (by omega) (by omega), e4, e5, e6, g _ _ (by simp; omega), g clerestoryref2_RomanOf_t2 _ (by show _ < 10; omega), g clerestoryref2_RomanOf_t1 _ (by show _ < 10; omega), g clerestoryref2_RomanOf_t0 _ (by show _ < 10; omega)]
  simp only [Option.bind_some]
  rw [catq (by omega), Option.bind_some, catq (by rw [List.length_append]; omega), Option.bind_some, catq (by rw [List.length_append, List.length_append]; omega), Option.bind_some]
theorem rom_ascii (n : Nat) : ∀ c, c ∈ romT n → c.toNat < 128 := by
  have b1 : ∀ (l : List (List UInt8)), (∀ x, x ∈ l → ∀ c, c ∈ x → c.toNat < 128) → ∀ k c, c ∈ l.getD k [] → c.toNat < 128 := by
    intro l hl k c hc
    rw [List.getD_eq_getElem?_getD] at hc
    cases hk : l[k]? with
    | none => rw [hk] at hc; simp at hc
    | some x => rw [hk] at hc; exact hl x (List.mem_of_getElem? hk) c hc
  intro c hc
  unfold romT at hc
  rcases List.mem_append.1 hc with hc | hc
  · rcases List.mem_append.1 hc with hc | hc
    · rcases List.mem_append.1 hc with hc | hc
      · exact b1 _ (by decide) _ c hc
      · exact b1 _ (by decide) _ c hc
    · exact b1 _ (by decide) _ c hc
  · exact b1 _ (by decide) _ c hc
theorem rom_len (n : Nat) (hn : n < 4000) : (romT n).length ≤ 1000 := by
  have : ((List.range 4000).all fun n => decide ((romT n).length ≤ 1000)) = true := by decide +kernel
  have := List.all_eq_true.1 this n (List.mem_range.2 hn)
  simpa using this
theorem mark_eq (kind n : Int) (h1 : -1000000 ≤ n) (h2 : n ≤ 1000000) : ∃ r, count_mark kind n = some r ∧ clerestoryref2_MarkOf kind n = some r := by
  have hb : (((decide (kind = 5)) && (decide (0 < n))) && (decide (n < 4000))) = ((decide (kind = 5)) && (count_in n 1 3999)) := by
    unfold count_in; rw [Bool.eq_iff_iff]; simp; omega
  have hb6 : (((decide (kind = 6)) && (decide (0 < n))) && (decide (n < 4000))) = ((decide (kind = 6)) && (count_in n 1 3999)) := by
    unfold count_in; rw [Bool.eq_iff_iff]; simp; omega
  have hin : count_in n 1 3999 = true → 1 ≤ n ∧ n ≤ 3999 := by unfold count_in; simp
  unfold count_mark clerestoryref2_MarkOf
  rw [hb, hb6]
  by_cases k0 : decide (kind = 0) = true
  · rw [if_pos k0, if_pos k0]; exact ⟨_, rfl, rfl⟩
  rw [if_neg k0, if_neg k0]
  by_cases k1 : decide (kind = 1) = true
  · rw [if_pos k1, if_pos k1]; exact ⟨_, rfl, rfl⟩
  rw [if_neg k1, if_neg k1]
  by_cases k3 : ((decide (kind = 3)) && (decide (0 < n))) = true
  · rw [if_pos k3, if_pos k3]
    simp only [Bool.and_eq_true, decide_eq_true_eq] at k3
    obtain ⟨m, rfl⟩ : ∃ m : Nat, n = m := ⟨n.toNat, by omega⟩
    rw [letters_eq m (by omega), lettersOf_eq m (by omega)]
    exact ⟨_, rfl, rfl⟩
  rw [if_neg k3, if_neg k3]
  by_cases k4 : ((decide (kind = 4)) && (decide (0 < n))) = true
  · rw [if_pos k4, if_pos k4]
    simp only [Bool.and_eq_true, decide_eq_true_eq] at k4
    obtain ⟨m, rfl⟩ : ∃ m : Nat, n = m := ⟨n.toNat, by omega⟩
    have := lett_len m
    rw [letters_eq m (by omega), lettersOf_eq m (by omega), Option.bind_some, Option.bind_some, toUpper_eq _ (by omega) (lett_ascii m), upper_eq _ (by omega)]
    exact ⟨_, rfl, rfl⟩
  rw [if_neg k4, if_neg k4]
  by_cases k5 : ((decide (kind = 5)) && (count_in n 1 3999)) = true
  · rw [if_pos k5, if_pos k5]
    rw [Bool.and_eq_true] at k5
    have := hin k5.2
    obtain ⟨m, rfl⟩ : ∃ m : Nat, n = m := ⟨n.toNat, by omega⟩
    rw [roman_eq m (by omega), romanOf_eq m (by omega), rom_eq m (by omega)]
    exact ⟨_, rfl, rfl⟩
  rw [if_neg k5, if_neg k5]
  by_cases k6 : ((decide (kind = 6)) && (count_in n 1 3999)) = true
  · rw [if_pos k6, if_pos k6]
    rw [Bool.and_eq_true] at k6
    have := hin k6.2
    obtain ⟨m, rfl⟩ : ∃ m : Nat, n = m := ⟨n.toNat, by omega⟩
    have hl := rom_len m (by omega)
    rw [roman_eq m (by omega), romanOf_eq m (by omega), rom_eq m (by omega), Option.bind_some, Option.bind_some, toUpper_eq _ (by omega) (rom_ascii m), upper_eq _ (by omega)]
    exact ⟨_, rfl, rfl⟩
  rw [if_neg k6, if_neg k6, signed_eq n (by omega) (by omega)]
  refine ⟨Lib.itoa n, ?_, rfl⟩
  show (itoa? n).bind _ = _
  unfold itoa?
  rw [if_pos (by omega)]
  rfl
theorem fourth_eq : clerestorylaw2_fourth = some true := by
  unfold clerestorylaw2_fourth count_Mark
  rw [if_neg (by decide), if_neg (by decide)]
  unfold count_mark
  rw [if_neg (by decide), if_neg (by decide), if_neg (by decide), if_neg (by decide), if_pos (by decide)]
  have := roman_eq 14 (by decide)
  rw [show (14 : Int) = ((14 : Nat) : Int) from rfl, this, show romG romL 14 = [120, 105, 118] by decide +kernel]
  decide
theorem pureCountMarks : PureCountMarks := by
  intro kind n _ _
  unfold clerestorylaw2_CountMarks
  rw [fourth_eq, Option.bind_some]
  unfold count_Mark
  by_cases hk : count_in kind 0 6 = true
  · have hk' : 0 ≤ kind ∧ kind ≤ 6 := by unfold count_in at hk; simpa using hk
    rw [if_neg (by simp [hk])]
    by_cases hn : count_in n (-1000000) 1000000 = true
    · have hn' : -1000000 ≤ n ∧ n ≤ 1000000 := by unfold count_in at hn; simpa using hn
      obtain ⟨r, r1, r2⟩ := mark_eq kind n hn'.1 hn'.2
      rw [if_neg (by simp [hn]), r1, Option.bind_some, Option.bind_some, if_neg (by simp; omega), if_neg (by simp; omega), if_pos (by simp), r2, Option.bind_some]
      unfold clerestorylaw2_CountMarks_j1
      simp
    · have hn' : n < -1000000 ∨ 1000000 < n := by
        unfold count_in at hn
        simp at hn
        omega
      rw [if_pos (by simpa using hn), Option.bind_some, if_neg (by simp; omega), if_pos (by simp; omega)]
      rfl
  · have hk' : kind < 0 ∨ 6 < kind := by
      unfold count_in at hk
      simp at hk
      omega
    rw [if_pos (by simpa using hk), Option.bind_some, if_pos (by simp; omega)]
    rfl
end Go.Proofs.YtagfmlkihindaaaDoorBv
