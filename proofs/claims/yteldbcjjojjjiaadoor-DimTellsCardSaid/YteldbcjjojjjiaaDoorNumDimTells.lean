/- Numbers at the beginning of a text: the program's and the document's, as one plain function. No program is in sight. -/
import Derived.Test.YteldbcjjojjjiaaDoorShDimTells
import Derived.Test.YteldbcjjojjjiaaDoorBv23
namespace Go.Proofs.YteldbcjjojjjiaaDoorBv
open Go
set_option linter.unusedSimpArgs false
set_option linter.unusedVariables false
def isD (c : UInt8) : Bool := decide (48 ≤ c.toNat) && decide (c.toNat ≤ 57)
def addD (n : Nat) (c : UInt8) : Nat := min (10 * n + (c.toNat - 48)) 1000000000
/-- what is behind a sign -/
def fromN (s : List UInt8) : Nat := match s with
  | [] => 0
  | c :: _ => if c = 43 ∨ c = 45 then 1 else 0
def fracN (l : List UInt8) : List UInt8 := match l with
  | [] => []
  | c :: r => if c = 46 then r.takeWhile isD else []
def thousN (n : Nat) (f : List UInt8) : Nat := addD (addD (addD n (f.getD 0 48)) (f.getD 1 48)) (f.getD 2 48)
def numS (s : List UInt8) : Int × Int :=
  let w := (s.drop (fromN s)).takeWhile isD
  let f := fracN ((s.drop (fromN s)).drop w.length)
  if w.length + f.length = 0 then (0, 0)
  else
    let n := thousN (w.foldl addD 0) f
    (if s.head? = some 45 then -(n : Int) else n, ((fromN s + w.length + if f.length = 0 then 0 else 1 + f.length : Nat) : Int))

theorem tens_isD (c : UInt8) : ([48, 49, 50, 51, 52, 53, 54, 55, 56, 57] : List UInt8).contains c = isD c := by
  have := u8_all (p := fun c => ([48, 49, 50, 51, 52, 53, 54, 55, 56, 57] : List UInt8).contains c == isD c) (by decide +kernel) c
  simpa using this
theorem digits_eq {s : List UInt8} (hs : s.length ≤ 140737488355328) : csstok_digits s = some ((s.takeWhile isD).length : Int) := by
  have h1 : strings_TrimLeft s [48, 49, 50, 51, 52, 53, 54, 55, 56, 57] = some (s.dropWhile isD) := by
    show trimLeft? _ _ = _
    unfold trimLeft?
    rw [if_pos (by decide)]
    unfold Lib.trimLeftS
    congr 2
    funext c
    exact tens_isD c
  unfold csstok_digits
  have := dropWhile_take isD s
  rw [h1, Option.bind_some, wi_id (by omega) (by omega)]
  congr 1
  omega
theorem fn1_eq {c : UInt8} {n : Nat} (hc : isD c = true) (hn : n ≤ 1000000000) : csstok_Number_fn1 (c.toNat : Int) (n : Int) = some ((addD n c : Nat) : Int) := by
  simp only [isD, Bool.and_eq_true, decide_eq_true_eq] at hc
  unfold csstok_Number_fn1 addD
  rw [wr_u8, wr_i64, wi_id (n := 10 * (n : Int)) (by omega) (by omega), wi_id (n := ((c.toNat : Int) - 48) % 256) (by omega) (by omega), wi_id (by omega) (by omega)]
  unfold mn
  congr 1
  split <;> omega
theorem addD_le (n : Nat) (c : UInt8) : addD n c ≤ 1000000000 := Nat.min_le_right _ _
theorem num_l0 (r s : List UInt8) (fr r1 be : Int) (K : Int → Option (Int × Int)) (hl : r.length ≤ 140737488355328) (hd : ∀ c ∈ r, isD c = true) : ∀ (d i n : Nat), i + d = r.length → n ≤ 1000000000 → ∀ m,
    csstok_Number_l0 r s fr r1 be K (m + d + 1) (n : Int) (i : Int) = K (((r.drop i).foldl addD n : Nat) : Int)
  | 0, i, n, hi, hn, m => by
    rw [csstok_Number_l0, if_neg (by simp only [decide_eq_true_eq, ints_length]; omega), List.drop_eq_nil_of_le (by omega)]
    rfl
  | d + 1, i, n, hi, hn, m => by
    have h : i < r.length := by omega
    rw [csstok_Number_l0, if_pos (by simp only [decide_eq_true_eq, ints_length]; omega), at_nat, ints_get, List.getElem?_eq_getElem h, Option.map_some, Option.bind_some, fn1_eq (hd _ (List.getElem_mem h)) hn, Option.bind_some,
      wi_id (by omega) (by omega), show (i : Int) + 1 = ((i + 1 : Nat) : Int) by omega, show m + (d + 1) = m + d + 1 by omega, num_l0 r s fr r1 be K hl hd d (i + 1) _ (by omega) (addD_le _ _) m]
    rw [List.drop_eq_getElem_cons h, List.foldl_cons]
theorem foldD_le (l : List UInt8) : ∀ n, n ≤ 1000000000 → l.foldl addD n ≤ 1000000000 := by
  induction l with
  | nil => intro n h; exact h
  | cons c r ih => intro n _; exact ih _ (addD_le _ _)
theorem isD48 : isD 48 = true := by decide
theorem frac_step {f : List UInt8} {i n : Nat} (s : List UInt8) (e : Int) (K : Int → Option (Int × Int)) (k : Nat) (hf : ∀ c ∈ f, isD c = true) (hn : n ≤ 1000000000) (hi : i < 3) :
    csstok_Number_l1 f s e K (k + 1) (n : Int) (i : Int) = csstok_Number_l1 f s e K k ((addD n (f.getD i 48) : Nat) : Int) ((i + 1 : Nat) : Int) := by
  rw [csstok_Number_l1, if_pos (by simp only [decide_eq_true_eq]; omega)]
  by_cases h : i < f.length
  · rw [if_pos (by simp only [decide_eq_true_eq]; omega), at_some h, Option.bind_some, fn1_eq (hf _ (List.getElem_mem h)) hn, Option.bind_some]
    unfold csstok_Number_j8
    rw [wi_id (by omega) (by omega), List.getD_eq_getElem?_getD, List.getElem?_eq_getElem h]
    rfl
  · rw [if_neg (by simp only [decide_eq_true_eq]; omega), show (48 : Int) = ((48 : UInt8).toNat : Int) from rfl, fn1_eq isD48 hn, Option.bind_some]
    unfold csstok_Number_j8
    rw [wi_id (by omega) (by omega), List.getD_eq_getElem?_getD, List.getElem?_eq_none (by omega)]
    rfl
theorem num_l1 {f : List UInt8} {n : Nat} (s : List UInt8) (e : Int) (K : Int → Option (Int × Int)) (hf : ∀ c ∈ f, isD c = true) (hn : n ≤ 1000000000) : lim (fun kk => csstok_Number_l1 f s e K kk (n : Int) 0) = K ((thousN n f : Nat) : Int) := by
  refine lim_add 4 fun m => ?_
  show csstok_Number_l1 f s e K (m + 3 + 1) (n : Int) ((0 : Nat) : Int) = _
  rw [frac_step s e K _ hf hn (by omega)]
  show csstok_Number_l1 f s e K (m + 2 + 1) _ _ = _
  rw [frac_step s e K _ hf (addD_le _ _) (by omega)]
  show csstok_Number_l1 f s e K (m + 1 + 1) _ _ = _
  rw [frac_step s e K _ hf (addD_le _ _) (by omega), csstok_Number_l1, if_neg (by decide)]
  rfl
theorem fold_take (l : List UInt8) : ∀ c ∈ l.takeWhile isD, isD c = true := by
  exact List.all_eq_true.1 List.all_takeWhile
theorem num_end {s : List UInt8} {e : Int} (h : s ≠ []) {n : Nat} {f : List UInt8} (hf : ∀ c ∈ f, isD c = true) (hn : n ≤ 1000000000) : csstok_Number_j5 s (n : Int) e f = some (if s.head? = some 45 then -((thousN n f : Nat) : Int) else ((thousN n f : Nat) : Int), e) := by
  unfold csstok_Number_j5
  rw [num_l1 s e _ hf hn]
  match s, h with
  | c :: r, _ =>
    have h0 : at? (c :: r) 0 = some c := rfl
    have hle : thousN n f ≤ 1000000000 := addD_le _ _
    rw [h0, Option.bind_some]
    unfold csstok_Number_j9
    by_cases hc : c = 45
    · subst hc
      rw [if_pos (show decide (((45 : UInt8).toNat : Int) = 45) = true by decide), if_pos (show (45 :: r).head? = some 45 from rfl), wi_id (by omega) (by omega)]
      congr 2
      omega
    · rw [if_neg (by simp only [decide_eq_true_eq]; intro e; exact hc (UInt8.toNat_inj.1 (by simpa using (by omega : c.toNat = 45)))), if_neg (by simpa using hc)]
theorem hasPrefix1 (l : List UInt8) (c : UInt8) : strings_HasPrefix l [c] = some (decide (l.head? = some c)) := by
  unfold strings_HasPrefix internal_stringslite_HasPrefix internal_stringslite_HasPrefix_j1
  cases l with
  | nil => simp
  | cons d r =>
    rw [if_pos (by simp; omega)]
    have : sub? (d :: r) 0 (([c] : List UInt8).length : Int) = some [d] := by
      have := sub_take (l := d :: r) (b := 1) (by simp)
      simpa using this
    rw [this, Option.bind_some, Option.bind_some]
    simp
theorem isD46 : isD 46 = false := by decide
theorem num_j4 {s : List UInt8} (hs : s.length ≤ 140737488355328) {a : Nat} (ha : a ≤ s.length) (w f : List UInt8) (hw : w = (s.drop a).takeWhile isD) (hf : f = fracN ((s.drop a).drop w.length)) :
    csstok_Number_j4 (w.length : Int) s (a : Int) (f.length : Int) = some (if w.length + f.length = 0 then (0, 0) else
      (if s.head? = some 45 then -((thousN (w.foldl addD 0) f : Nat) : Int) else ((thousN (w.foldl addD 0) f : Nat) : Int), ((a + w.length + if f.length = 0 then 0 else 1 + f.length : Nat) : Int))) := by
  have hwl : w.length ≤ s.length - a := by
    have := dropWhile_take isD (s.drop a)
    rw [← hw, List.length_drop] at this
    omega
  have hfl : f.length ≠ 0 → 1 + f.length ≤ s.length - a - w.length ∧ (((s.drop a).drop w.length).drop 1).take f.length = f := by
    intro h0
    unfold fracN at hf
    split at hf
    · subst hf; exact absurd rfl h0
    · rename_i c r hr
      split at hf
      · have h1 := congrArg List.length hr
        simp only [List.length_drop, List.length_cons] at h1
        have h2 := dropWhile_take isD r
        refine ⟨by rw [hf]; omega, ?_⟩
        rw [hr, hf]
        exact take_takeWhile isD r
      · subst hf; exact absurd rfl h0
  have hdf : ∀ c ∈ f, isD c = true := by
    intro c hc
    rw [hf] at hc
    unfold fracN at hc
    split at hc
    · cases hc
    · split at hc
      · exact fold_take _ _ hc
      · cases hc
  have hdw : ∀ c ∈ w, isD c = true := by rw [hw]; exact fold_take _
  unfold csstok_Number_j4
  have hfl2 : f.length ≤ s.length := by
    by_cases h : f.length = 0
    · omega
    · have := (hfl h).1; omega
  rw [wi_id (n := (w.length : Int) + f.length) (by omega) (by omega)]
  by_cases h0 : w.length + f.length = 0
  · rw [if_pos (by simp only [decide_eq_true_eq]; omega), if_pos h0]
  · have hne : s ≠ [] := by
      rintro rfl
      have h1 : w.length = 0 := by simpa using hwl
      by_cases h : f.length = 0
      · omega
      · have := (hfl h).1; simp at this
    rw [if_neg (by simp only [decide_eq_true_eq]; omega), if_neg h0, wi_id (n := (a : Int) + w.length) (by omega) (by omega), show (a : Int) + w.length = ((a + w.length : Nat) : Int) by omega, sub_nat (by omega) (by omega), Option.bind_some]
    have e1 : (s.take (a + w.length)).drop a = w := by
      rw [List.drop_take, show a + w.length - a = w.length by omega]
      have h := take_takeWhile isD (s.drop a)
      rw [← hw] at h
      exact h
    rw [e1]
    refine (lim_add (w.length + 1) fun m => ?_)
    have := num_l0 w s (a : Int) (w.length : Int) (f.length : Int)
    rw [← Nat.add_assoc]
    refine ((num_l0 w s (a : Int) (w.length : Int) (f.length : Int) _ (by omega) hdw w.length 0 0 (by omega) (by omega) m)).trans ?_
    rw [List.drop_zero]
    have hfd := foldD_le w 0 (by omega)
    by_cases hf0 : f.length = 0
    · rw [if_neg (by simp only [decide_eq_true_eq]; omega), List.eq_nil_of_length_eq_zero hf0, num_end hne (fun c hc => by cases hc) hfd]
      simp
    · have h3 := hfl hf0
      rw [if_pos (by simp only [decide_eq_true_eq]; omega), wi_id (n := ((a + w.length : Nat) : Int) + 1) (by omega) (by omega), wi_id (n := ((a + w.length : Nat) : Int) + 1 + f.length) (by omega) (by omega), wi_id (n := (1 : Int) + f.length) (by omega) (by omega), wi_id (by omega) (by omega),
        show ((a + w.length : Nat) : Int) + 1 = ((a + w.length + 1 : Nat) : Int) by omega, show ((a + w.length + 1 : Nat) : Int) + f.length = ((a + w.length + 1 + f.length : Nat) : Int) by omega, sub_nat (by omega) (by omega), Option.bind_some]
      have e2 : (s.take (a + w.length + 1 + f.length)).drop (a + w.length + 1) = f := by
        rw [List.drop_take, show a + w.length + 1 + f.length - (a + w.length + 1) = f.length by omega]
        have := h3.2
        rwa [List.drop_drop, List.drop_drop] at this
      rw [e2, num_end hne hdf hfd, if_neg hf0]
      congr 2
      try omega
theorem Number_eq {s : List UInt8} (hs : s.length ≤ 140737488355328) : csstok_Number s = some (numS s) := by
  have main : ∀ a : Nat, a = fromN s → a ≤ s.length → csstok_Number_j3 s (a : Int) = some (numS s) := by
    intro a hfrom ha
    obtain ⟨w, hw⟩ : ∃ w, w = (s.drop a).takeWhile isD := ⟨_, rfl⟩
    have hwl : w.length ≤ s.length - a := by
      have := dropWhile_take isD (s.drop a)
      rw [← hw, List.length_drop] at this
      omega
    unfold csstok_Number_j3
    rw [sub_drop ha, Option.bind_some, digits_eq (by rw [List.length_drop]; omega), Option.bind_some, ← hw, wi_id (by omega) (by omega), show (a : Int) + w.length = ((a + w.length : Nat) : Int) by omega, sub_drop (by omega), Option.bind_some, hasPrefix1, Option.bind_some]
    have e0 : s.drop (a + w.length) = (s.drop a).drop w.length := by rw [List.drop_drop]
    have fin : ∀ f, f = fracN ((s.drop a).drop w.length) → csstok_Number_j4 (w.length : Int) s (a : Int) (f.length : Int) = some (numS s) := by
      intro f hf
      rw [num_j4 hs ha w f hw hf]
      unfold numS
      rw [← hfrom, ← hw]
      simp only [← hf]
    rw [e0]
    cases hr : (s.drop a).drop w.length with
    | nil =>
      rw [if_neg (by simp)]
      refine fin [] ?_
      rw [hr]; rfl
    | cons c r =>
      by_cases hc : c = 46
      · subst hc
        rw [if_pos (by simp), show (1 : Int) = ((1 : Nat) : Int) from rfl, sub_drop (by simp), Option.bind_some, digits_eq (by
          have := congrArg List.length hr
          simp only [List.length_drop, List.length_cons] at this ⊢
          omega), Option.bind_some]
        refine fin _ ?_
        rw [hr]; rfl
      · rw [if_neg (by simpa using hc)]
        refine fin [] ?_
        rw [hr]
        show _ = if c = 46 then _ else _
        rw [if_neg hc]
  unfold csstok_Number csstok_Number_j10
  cases s with
  | nil =>
    rw [if_neg (by simp), if_neg (by simp)]
    exact main 0 rfl (by simp)
  | cons c r =>
    have h0 : at? (c :: r) 0 = some c := rfl
    have hn : ∀ k : Nat, k < 256 → ((c.toNat : Int) = (k : Int) ↔ c = UInt8.ofNat k) := fun k hk => by
      constructor
      · intro h; rw [← UInt8.ofNat_toNat (x := c)]; congr 1; omega
      · rintro rfl; simp; omega
    have h43 := hn 43 (by omega)
    have h45 := hn 45 (by omega)
    rw [if_pos (by simp), h0, Option.bind_some, Option.bind_some]
    by_cases c1 : c = 43
    · rw [if_pos (by simp only [decide_eq_true_eq]; exact h43.2 c1), if_pos rfl]
      exact main 1 (by simp [fromN, c1]) (by simp)
    · rw [if_neg (by simp only [decide_eq_true_eq]; exact fun h => c1 (h43.1 h))]
      by_cases c2 : c = 45
      · rw [if_pos (by simp only [decide_eq_true_eq]; exact h45.2 c2)]
        exact main 1 (by simp [fromN, c2]) (by simp)
      · rw [if_neg (by simp only [decide_eq_true_eq]; exact fun h => c2 (h45.1 h))]
        exact main 0 (by simp [fromN, c1, c2]) (by simp)
end Go.Proofs.YteldbcjjojjjiaaDoorBv
