/- The document's numbers at the beginning of a text: the same plain function. No program is in sight. -/
import Derived.Test.YtdmmjgjmfpalhaaDoorNumTokenCuts
namespace Go.Proofs.YtdmmjgjmfpalhaaDoorBv
open Go
set_option linter.unusedSimpArgs false
set_option linter.unusedVariables false
theorem rdigit_eq (c : UInt8) : clerestoryref2_digit (c.toNat : Int) = isD c := by
  unfold clerestoryref2_digit isD
  congr 1
  · rw [Bool.eq_iff_iff]; simp; omega
  · rw [Bool.eq_iff_iff]; simp; omega
theorem rat_eq (s : List UInt8) (i : Nat) : clerestoryref2_at s (i : Int) = some ((s.getD i 0).toNat : Int) := by
  unfold clerestoryref2_at
  by_cases h : i < s.length
  · rw [if_pos (by simp only [decide_eq_true_eq]; omega), at_some h, Option.bind_some, List.getD_eq_getElem?_getD, List.getElem?_eq_getElem h]
    rfl
  · rw [if_neg (by simp only [decide_eq_true_eq]; omega), List.getD_eq_getElem?_getD, List.getElem?_eq_none (by omega)]
    rfl
theorem dig_val {c : UInt8} (h : isD c = true) : wr .i64 (wr .u8 ((c.toNat : Int) - 48)) = ((c.toNat - 48 : Nat) : Int) ∧ c.toNat - 48 ≤ 9 := by
  simp only [isD, Bool.and_eq_true, decide_eq_true_eq] at h
  refine ⟨?_, by omega⟩
  rw [wr_u8, wr_i64, wi_id (by omega) (by omega)]
  omega
theorem mn_nat (a b : Nat) : mn (a : Int) (b : Int) = ((min a b : Nat) : Int) := by
  unfold mn
  split <;> omega
theorem rnum_l0 (s : List UInt8) (i0 : Int) (K : Int → Int → Option (Int × Int)) (hl : s.length ≤ 140737488355328) : ∀ (d i n : Nat), i + d = s.length → n ≤ 1000000000 → ∀ m,
    clerestoryref2_NumberAt_l0 s i0 K (m + d + 1) (i : Int) (n : Int) = K ((i + ((s.drop i).takeWhile isD).length : Nat) : Int) ((((s.drop i).takeWhile isD).foldl addD n : Nat) : Int)
  | 0, i, n, hi, hn, m => by
    rw [clerestoryref2_NumberAt_l0, if_neg (by simp only [decide_eq_true_eq]; omega), List.drop_eq_nil_of_le (by omega)]
    rfl
  | d + 1, i, n, hi, hn, m => by
    have h : i < s.length := by omega
    rw [clerestoryref2_NumberAt_l0, if_pos (by simp only [decide_eq_true_eq]; omega), at_some h, Option.bind_some, rdigit_eq, List.drop_eq_getElem_cons h, List.takeWhile_cons]
    unfold clerestoryref2_NumberAt_j6
    cases hc : isD s[i] with
    | false => simp
    | true =>
      obtain ⟨e1, e2⟩ := dig_val hc
      rw [if_pos rfl, if_pos rfl, at_some h, Option.bind_some, e1, wi_id (n := 10 * (n : Int)) (by omega) (by omega), wi_id (n := 10 * (n : Int) + _) (by omega) (by omega), wi_id (by omega) (by omega),
        show (i : Int) + 1 = ((i + 1 : Nat) : Int) by omega, show 10 * (n : Int) + ((s[i].toNat - 48 : Nat) : Int) = ((10 * n + (s[i].toNat - 48) : Nat) : Int) by omega, show (1000000000 : Int) = ((1000000000 : Nat) : Int) from rfl, mn_nat,
        show m + (d + 1) = m + d + 1 by omega]
      rw [rnum_l0 s i0 K hl d (i + 1) _ (by omega) (Nat.min_le_right _ _) m, List.length_cons, List.foldl_cons]
      rw [show i + 1 + ((s.drop (i + 1)).takeWhile isD).length = i + (((s.drop (i + 1)).takeWhile isD).length + 1) by omega]
      rfl
theorem cap_le (x : Nat) : min x 1000000000 ≤ 1000000000 := Nat.min_le_right _ _
theorem thousN_le (n : Nat) (f : List UInt8) : thousN n f ≤ 1000000000 := addD_le _ _
def capA (n d : Nat) : Nat := min (n + d) 1000000000
theorem capA_le (n d : Nat) : capA n d ≤ 1000000000 := Nat.min_le_right _ _
def foldU (n u : Nat) (l : List UInt8) : Nat := match l with
  | [] => n
  | c :: r => foldU (capA n (u * (c.toNat - 48))) (u / 10) r
theorem foldU_nil (n u : Nat) : foldU n u [] = n := by unfold foldU; rfl
theorem foldU_cons (n u : Nat) (c : UInt8) (r : List UInt8) : foldU n u (c :: r) = foldU (capA n (u * (c.toNat - 48))) (u / 10) r := by
  conv => lhs; unfold foldU
theorem foldU_zero (l : List UInt8) (n : Nat) (h : n ≤ 1000000000) : foldU n 0 l = n := by
  induction l with
  | nil => exact foldU_nil n 0
  | cons c r ih =>
    have e : capA n (0 * (c.toNat - 48)) = n := by rw [Nat.zero_mul]; exact Nat.min_eq_left h
    rw [foldU_cons, e]
    exact ih
theorem foldU_thous (n : Nat) (f : List UInt8) (hf : ∀ c ∈ f, isD c = true) : foldU (min (1000 * n) 1000000000) 100 f = thousN n f := by
  have hd : ∀ c, isD c = true → 48 ≤ c.toNat ∧ c.toNat ≤ 57 := fun c h => by
    simp only [isD, Bool.and_eq_true, decide_eq_true_eq] at h
    exact h
  have e48 : (48 : UInt8).toNat = 48 := rfl
  match f, hf with
  | [], _ => simp only [foldU_nil, foldU_cons]; simp [capA, thousN, addD, e48]; try omega
  | [a], hf =>
    have := hd a (hf a (by simp))
    simp only [foldU_nil, foldU_cons]; simp [capA, thousN, addD, e48]; try omega
  | [a, b], hf =>
    have := hd a (hf a (by simp))
    have := hd b (hf b (by simp))
    simp only [foldU_nil, foldU_cons]; simp [capA, thousN, addD, e48]; try omega
  | a :: b :: c :: r, hf =>
    have := hd a (hf a (by simp))
    have := hd b (hf b (by simp))
    have := hd c (hf c (by simp))
    simp only [foldU_cons]
    rw [show 100 / 10 / 10 / 10 = 0 from rfl, foldU_zero r _ (capA_le _ _)]
    simp [capA, thousN, addD]; omega
theorem rnum_l3 (s : List UInt8) (K : Int → Int → Int → Option (Int × Int)) (hl : s.length ≤ 140737488355328) : ∀ (d i n q u : Nat), i + d = s.length → n ≤ 1000000000 → q ≤ i → u ≤ 100 → ∀ m,
    clerestoryref2_NumberAt_l3 s K (m + d + 1) (i : Int) (n : Int) (q : Int) (u : Int) = K ((i + ((s.drop i).takeWhile isD).length : Nat) : Int) ((foldU n u ((s.drop i).takeWhile isD) : Nat) : Int) ((q + ((s.drop i).takeWhile isD).length : Nat) : Int)
  | 0, i, n, q, u, hi, hn, hq, hu, m => by
    rw [clerestoryref2_NumberAt_l3, if_neg (by simp only [decide_eq_true_eq]; omega), List.drop_eq_nil_of_le (by omega)]
    rfl
  | d + 1, i, n, q, u, hi, hn, hq, hu, m => by
    have h : i < s.length := by omega
    rw [clerestoryref2_NumberAt_l3, if_pos (by simp only [decide_eq_true_eq]; omega), at_some h, Option.bind_some, rdigit_eq, List.drop_eq_getElem_cons h, List.takeWhile_cons]
    unfold clerestoryref2_NumberAt_j20
    cases hc : isD s[i] with
    | false => simp [foldU_nil]
    | true =>
      obtain ⟨e1, e2⟩ := dig_val hc
      have e3 : u * (s[i].toNat - 48) ≤ 100 * 9 := Nat.mul_le_mul hu e2
      have e4 : (u : Int) * ((s[i].toNat - 48 : Nat) : Int) = ((u * (s[i].toNat - 48) : Nat) : Int) := by rw [Int.natCast_mul]
      rw [if_pos rfl, if_pos rfl, at_some h, Option.bind_some, e1, e4, wi_id (n := ((u * (s[i].toNat - 48) : Nat) : Int)) (by omega) (by omega), wi_id (n := (n : Int) + _) (by omega) (by omega), wi_id (n := (i : Int) + 1) (by omega) (by omega), wi_id (n := (q : Int) + 1) (by omega) (by omega),
        show (i : Int) + 1 = ((i + 1 : Nat) : Int) by omega, show (q : Int) + 1 = ((q + 1 : Nat) : Int) by omega, show (n : Int) + ((u * (s[i].toNat - 48) : Nat) : Int) = ((n + u * (s[i].toNat - 48) : Nat) : Int) by omega, show (1000000000 : Int) = ((1000000000 : Nat) : Int) from rfl, mn_nat,
        show m + (d + 1) = m + d + 1 by omega, show (u : Int).tdiv 10 = ((u / 10 : Nat) : Int) from rfl, wi_id (n := ((u / 10 : Nat) : Int)) (by omega) (by omega)]
      rw [show min (n + u * (s[i].toNat - 48)) 1000000000 = capA n (u * (s[i].toNat - 48)) from rfl, rnum_l3 s K hl d (i + 1) (capA n (u * (s[i].toNat - 48))) (q + 1) (u / 10) (by omega) (capA_le _ _) (by omega) (by omega) m, List.length_cons]
      rw [show i + 1 + ((s.drop (i + 1)).takeWhile isD).length = i + (((s.drop (i + 1)).takeWhile isD).length + 1) by omega, show q + 1 + ((s.drop (i + 1)).takeWhile isD).length = q + (((s.drop (i + 1)).takeWhile isD).length + 1) by omega, foldU_cons]
theorem rnum_end {s : List UInt8} {i : Int} {n q : Nat} (hn : n ≤ 1000000000) (hq : q ≠ 0 → s ≠ []) :
    clerestoryref2_NumberAt_j15 s i (n : Int) (q : Int) = some (if q = 0 then (0, 0) else (if s.head? = some 45 then -(n : Int) else (n : Int), i)) := by
  unfold clerestoryref2_NumberAt_j15 clerestoryref2_NumberAt_j16
  by_cases h0 : q = 0
  · rw [if_pos (by simp only [decide_eq_true_eq]; omega), if_pos h0]
  · rw [if_neg (by simp only [decide_eq_true_eq]; omega), if_neg h0]
    match s, hq h0 with
    | c :: r, _ =>
      have h0 : at? (c :: r) 0 = some c := rfl
      rw [h0, Option.bind_some]
      by_cases hc : c = 45
      · subst hc
        rw [if_pos (show decide (((45 : UInt8).toNat : Int) = 45) = true by decide), if_pos (show (45 :: r).head? = some 45 from rfl), wi_id (by omega) (by omega)]
        congr 2
        omega
      · rw [if_neg (by simp only [decide_eq_true_eq]; intro e; exact hc (UInt8.toNat_inj.1 (by simpa using (by omega : c.toNat = 45)))), if_neg (by simpa using hc)]
theorem NumberAt_eq {s : List UInt8} (hs : s.length ≤ 140737488355328) : clerestoryref2_NumberAt s = some (numS s) := by
  have main : ∀ a : Nat, a = fromN s → a ≤ s.length → clerestoryref2_NumberAt_j3 s (a : Int) = some (numS s) := by
    intro a hfrom ha
    unfold clerestoryref2_NumberAt_j3
    refine lim_add (s.length - a + 1) fun m => ?_
    rw [← Nat.add_assoc]
    refine (rnum_l0 s _ _ hs (s.length - a) a 0 (by omega) (by omega) m).trans ?_
    obtain ⟨w, hw⟩ : ∃ w, w = (s.drop a).takeWhile isD := ⟨_, rfl⟩
    obtain ⟨f, hf⟩ : ∃ f, f = fracN ((s.drop a).drop w.length) := ⟨_, rfl⟩
    have hwl : w.length ≤ s.length - a := by
      have := dropWhile_take isD (s.drop a)
      rw [← hw, List.length_drop] at this
      omega
    rw [← hw, rat_eq, Option.bind_some]
    have hfd := foldD_le w 0 (by omega)
    generalize hn : w.foldl addD 0 = n at hfd
    have e0 : (s.drop a).drop w.length = s.drop (a + w.length) := by rw [List.drop_drop]
    have hspec : numS s = if w.length + f.length = 0 then (0, 0) else (if s.head? = some 45 then -((thousN n f : Nat) : Int) else ((thousN n f : Nat) : Int), ((a + w.length + if f.length = 0 then 0 else 1 + f.length : Nat) : Int)) := by
      unfold numS
      rw [← hfrom, ← hw]
      simp only [← hf, hn]
    have hne : ∀ q, q ≠ 0 → q = w.length + f.length → s ≠ [] := by
      rintro q h0 hq rfl
      have h1 : w.length = 0 := by simpa using hwl
      have h2 : f = [] := by rw [hf]; simp [fracN]
      rw [h2] at hq
      simp at hq
      omega
    have j17 : ∀ v : Bool, (v = true → ∃ r, s.drop (a + w.length) = 46 :: r ∧ f = r.takeWhile isD ∧ f ≠ []) → (v = false → f = []) → clerestoryref2_NumberAt_j17 s ((a + w.length : Nat) : Int) (n : Int) (a : Int) v = some (numS s) := by
      intro v h1 h2
      have hm : mn (wi (1000 * (n : Int))) 1000000000 = ((min (1000 * n) 1000000000 : Nat) : Int) := by
        rw [wi_id (by omega) (by omega), show 1000 * (n : Int) = ((1000 * n : Nat) : Int) by omega]
        exact mn_nat _ _
      unfold clerestoryref2_NumberAt_j17
      rw [hm, wi_id (n := ((a + w.length : Nat) : Int) - a) (by omega) (by omega), show ((a + w.length : Nat) : Int) - a = ((w.length : Nat) : Int) by omega, wi_id (n := ((a + w.length : Nat) : Int) + 1) (by omega) (by omega)]
      cases v with
      | true =>
        obtain ⟨r, hr, hfr, hf0⟩ := h1 rfl
        have hlr := congrArg List.length hr
        simp only [List.length_drop, List.length_cons] at hlr
        have hr1 : s.drop (a + w.length + 1) = r := by
          rw [← List.drop_drop, hr]; rfl
        rw [if_pos rfl]
        refine lim_add (s.length - (a + w.length + 1) + 1) fun m => ?_
        rw [← Nat.add_assoc, show ((a + w.length : Nat) : Int) + 1 = ((a + w.length + 1 : Nat) : Int) by omega]
        refine (rnum_l3 s _ hs (s.length - (a + w.length + 1)) (a + w.length + 1) _ w.length 100 (by omega) (Nat.min_le_right _ _) (by omega) (by omega) m).trans ?_
        have hfl : f.length ≠ 0 := fun h => hf0 (List.eq_nil_of_length_eq_zero h)
        rw [hr1, ← hfr, foldU_thous n f (by rw [hfr]; exact fold_take r), rnum_end (thousN_le n f) (fun h => hne _ h rfl), hspec]
        congr 1
        rw [if_neg hfl]
        congr 2
        omega
      | false =>
        have hf0 := h2 rfl
        rw [if_neg (by simp), rnum_end (Nat.min_le_right _ _) (fun h => hne _ h (by rw [hf0]; rfl)), hspec, hf0]
        have : min (1000 * n) 1000000000 = thousN n [] := (foldU_thous n [] (fun c hc => by cases hc))
        rw [this]
        rfl
    show (if _ then _ else _) = _
    have hget : ∀ {c r}, s.drop (a + w.length) = c :: r → s[a + w.length]? = some c := by
      intro c r h
      have : (s.drop (a + w.length))[0]? = some c := by rw [h]; rfl
      simpa using this
    cases hd : s.drop (a + w.length) with
    | nil =>
      have hlen : s.length ≤ a + w.length := by simpa using hd
      have e46 : ¬ (decide (((s.getD (a + w.length) 0).toNat : Int) = 46) = true) := by
        rw [List.getD_eq_getElem?_getD, List.getElem?_eq_none hlen]; decide
      rw [if_neg (by simp only [Bool.and_eq_true]; exact fun h => e46 h.1)]
      exact j17 false (fun h => by cases h) (fun _ => by rw [hf, e0, hd]; rfl)
    | cons c r =>
      have hc0 : s.getD (a + w.length) 0 = c := by rw [List.getD_eq_getElem?_getD, hget hd]; rfl
      have hlr := congrArg List.length hd
      simp only [List.length_drop, List.length_cons] at hlr
      rw [hc0, wi_id (n := ((a + w.length : Nat) : Int) + 1) (by omega) (by omega), show ((a + w.length : Nat) : Int) + 1 = ((a + w.length + 1 : Nat) : Int) by omega]
      have hff : f = if c = 46 then r.takeWhile isD else [] := by rw [hf, e0, hd]; rfl
      by_cases hc : c = 46
      · subst hc
        rw [if_pos rfl] at hff
        cases r with
        | nil =>
          simp only [List.length_nil] at hlr
          rw [if_neg (by simp only [Bool.and_eq_true, decide_eq_true_eq]; omega)]
          exact j17 false (fun h => by cases h) (fun _ => hff)
        | cons x r2 =>
          simp only [List.length_cons] at hlr
          rw [if_pos (by simp only [Bool.and_eq_true, decide_eq_true_eq]; exact ⟨rfl, by omega⟩)]
          have hx : s[a + w.length + 1]? = some x := by
            have : (s.drop (a + w.length))[1]? = some x := by rw [hd]; rfl
            simpa using this
          rw [at_nat, hx, Option.bind_some, rdigit_eq]
          refine j17 _ (fun h => ⟨_, hd, hff, ?_⟩) (fun h => ?_)
          · rw [hff, List.takeWhile_cons, if_pos h]; simp
          · rw [hff, List.takeWhile_cons, h]; rfl
      · rw [if_neg hc] at hff
        rw [if_neg (by
          simp only [Bool.and_eq_true, decide_eq_true_eq]
          intro h
          exact hc (UInt8.toNat_inj.1 (by simpa using (by omega : c.toNat = 46))))]
        exact j17 false (fun h => by cases h) (fun _ => hff)
  unfold clerestoryref2_NumberAt clerestoryref2_NumberAt_j21
  have r0 := rat_eq s 0
  rw [show ((0 : Nat) : Int) = 0 from rfl] at r0
  rw [r0, Option.bind_some, Option.bind_some]
  cases s with
  | nil =>
    rw [if_neg (by decide), if_neg (by decide)]
    exact main 0 rfl (by simp)
  | cons c r =>
    have hg : (c :: r).getD 0 0 = c := rfl
    rw [hg]
    by_cases c1 : c = 43
    · subst c1
      rw [if_pos (by decide), if_pos rfl]
      exact main 1 (by simp [fromN]) (by simp)
    · have n1 : ¬ (decide ((c.toNat : Int) = 43) = true) := by
        simp only [decide_eq_true_eq]; intro e; exact c1 (UInt8.toNat_inj.1 (by simpa using (by omega : c.toNat = 43)))
      rw [if_neg n1]
      by_cases c2 : c = 45
      · subst c2
        rw [if_pos (by decide)]
        exact main 1 (by simp [fromN]) (by simp)
      · have n2 : ¬ (decide ((c.toNat : Int) = 45) = true) := by
          simp only [decide_eq_true_eq]; intro e; exact c2 (UInt8.toNat_inj.1 (by simpa using (by omega : c.toNat = 45)))
        rw [if_neg n2]
        exact main 0 (by simp [fromN, c1, c2]) (by simp)
end Go.Proofs.YtdmmjgjmfpalhaaDoorBv
