/- The law LookOwners, over plain values, in parts. No program is in sight. -/
import Derived.Test.YtaejmblphhjccaaGreatDoorShLookOwners
import Derived.Test.YtaejmblphhjccaaGreatDoorBv23
import Derived.Test.YtaejmblphhjccaaGreatDoorBv30
import Derived.Test.YtaejmblphhjccaaGreatDoorBv35
/- Numbers at the beginning of a text: the program's and the document's, as one plain function. No program is in sight. -/
namespace Go.Proofs.YtaejmblphhjccaaGreatDoorBv
open Go
set_option linter.unusedSimpArgs false
set_option linter.unusedVariables false
def isD (c : UInt8) : Bool := decide (48 ≤ c.toNat) && decide (c.toNat ≤ 57)
def addD (n : Nat) (c : UInt8) : Nat := min (10 * n + (c.toNat - 48)) 1000000000
/-- what is behind a sign -/
def fromN (s : List UInt8) : Nat := match s with
 | [] => 0
 | c :: _ => if c = 43 ∨ c = 45 then 1 else 0
def fracN (l : List UInt8) : List UInt8 := match l with
 | [] => []
 | c :: r => if c = 46 then r.takeWhile isD else []
def thousN (n : Nat) (f : List UInt8) : Nat := addD (addD (addD n (f.getD 0 48)) (f.getD 1 48)) (f.getD 2 48)
def numS (s : List UInt8) : Int × Int :=
 let w := (s.drop (fromN s)).takeWhile isD
 let f := fracN ((s.drop (fromN s)).drop w.length)
 if w.length + f.length = 0 then (0, 0)
 else
  let n := thousN (w.foldl addD 0) f
  (if s.head? = some 45 then -(n : Int) else n, ((fromN s + w.length + if f.length = 0 then 0 else 1 + f.length : Nat) : Int))

theorem tens_isD (c : UInt8) : ([48, 49, 50, 51, 52, 53, 54, 55, 56, 57] : List UInt8).contains c = isD c := by
 have := u8_all (p := fun c => ([48, 49, 50, 51, 52, 53, 54, 55, 56, 57] : List UInt8).contains c == isD c) (by decide +kernel) c
 simpa using this
theorem digits_eq {s : List UInt8} (hs : s.length ≤ 140737488355328) : Z25 s = some ((s.takeWhile isD).length : Int) := by
 have h1 : Z2w s [48, 49, 50, 51, 52, 53, 54, 55, 56, 57] = some (s.dropWhile isD) := by
  show trimLeft? _ _ = _
  unfold trimLeft?
  rw [if_pos (by decide)]
  unfold Lib.trimLeftS
  congr 2
  funext c
  exact tens_isD c
 unfold Z25
 have := dropWhile_take isD s
 rw [h1, Option.bind_some, wi_id (by omega) (by omega)]
 congr 1
 omega
theorem fn1_eq {c : UInt8} {n : Nat} (hc : isD c = true) (hn : n ≤ 1000000000) : Z1l (c.toNat : Int) (n : Int) = some ((addD n c : Nat) : Int) := by
 simp only [isD, Bool.and_eq_true, decide_eq_true_eq] at hc
 unfold Z1l addD
 rw [wr_u8, wr_i64, wi_id (n := 10 * (n : Int)) (by omega) (by omega), wi_id (n := ((c.toNat : Int) - 48) % 256) (by omega) (by omega), wi_id (by omega) (by omega)]
 unfold mn
 congr 1
 split <;> omega
theorem addD_le (n : Nat) (c : UInt8) : addD n c ≤ 1000000000 := Nat.min_le_right _ _
theorem num_l0 (r s : List UInt8) (fr r1 be : Int) (K : Int → Option (Int × Int)) (hl : r.length ≤ 140737488355328) (hd : ∀ c ∈ r, isD c = true) : ∀ (d i n : Nat), i + d = r.length → n ≤ 1000000000 → ∀ m,
  Zt r s fr r1 be K (m + d + 1) (n : Int) (i : Int) = K (((r.drop i).foldl addD n : Nat) : Int)
 | 0, i, n, hi, hn, m => by
  rw [Zt, if_neg (by simp only [decide_eq_true_eq, ints_length]; omega), List.drop_eq_nil_of_le (by omega)]
  rfl
 | d + 1, i, n, hi, hn, m => by
  have h : i < r.length := by omega
  rw [Zt, if_pos (by simp only [decide_eq_true_eq, ints_length]; omega), at_nat, ints_get, List.getElem?_eq_getElem h, Option.map_some, Option.bind_some, fn1_eq (hd _ (List.getElem_mem h)) hn, Option.bind_some,
   wi_id (by omega) (by omega), show (i : Int) + 1 = ((i + 1 : Nat) : Int) by omega, show m + (d + 1) = m + d + 1 by omega, num_l0 r s fr r1 be K hl hd d (i + 1) _ (by omega) (addD_le _ _) m]
  rw [List.drop_eq_getElem_cons h, List.foldl_cons]
theorem foldD_le (l : List UInt8) : ∀ n, n ≤ 1000000000 → l.foldl addD n ≤ 1000000000 := by
 induction l with
 | nil => intro n h; exact h
 | cons c r ih => intro n _; exact ih _ (addD_le _ _)
theorem isD48 : isD 48 = true := by decide
theorem frac_step {f : List UInt8} {i n : Nat} (s : List UInt8) (e : Int) (K : Int → Option (Int × Int)) (k : Nat) (hf : ∀ c ∈ f, isD c = true) (hn : n ≤ 1000000000) (hi : i < 3) :
  Z3 f s e K (k + 1) (n : Int) (i : Int) = Z3 f s e K k ((addD n (f.getD i 48) : Nat) : Int) ((i + 1 : Nat) : Int) := by
 rw [Z3, if_pos (by simp only [decide_eq_true_eq]; omega)]
 by_cases h : i < f.length
 ·rw [if_pos (by simp only [decide_eq_true_eq]; omega), at_some h, Option.bind_some, fn1_eq (hf _ (List.getElem_mem h)) hn, Option.bind_some]
  unfold Z26
  rw [wi_id (by omega) (by omega), List.getD_eq_getElem?_getD, List.getElem?_eq_getElem h]
  rfl
 ·rw [if_neg (by simp only [decide_eq_true_eq]; omega), show (48 : Int) = ((48 : UInt8).toNat : Int) from rfl, fn1_eq isD48 hn, Option.bind_some]
  unfold Z26
  rw [wi_id (by omega) (by omega), List.getD_eq_getElem?_getD, List.getElem?_eq_none (by omega)]
  rfl
theorem num_l1 {f : List UInt8} {n : Nat} (s : List UInt8) (e : Int) (K : Int → Option (Int × Int)) (hf : ∀ c ∈ f, isD c = true) (hn : n ≤ 1000000000) : lim (fun kk => Z3 f s e K kk (n : Int) 0) = K ((thousN n f : Nat) : Int) := by
 refine lim_add 4 fun m => ?_
 show Z3 f s e K (m + 3 + 1) (n : Int) ((0 : Nat) : Int) = _
 rw [frac_step s e K _ hf hn (by omega)]
 show Z3 f s e K (m + 2 + 1) _ _ = _
 rw [frac_step s e K _ hf (addD_le _ _) (by omega)]
 show Z3 f s e K (m + 1 + 1) _ _ = _
 rw [frac_step s e K _ hf (addD_le _ _) (by omega), Z3, if_neg (by decide)]
 rfl
theorem fold_take (l : List UInt8) : ∀ c ∈ l.takeWhile isD, isD c = true := by
 exact List.all_eq_true.1 List.all_takeWhile
theorem num_end {s : List UInt8} {e : Int} (h : s ≠ []) {n : Nat} {f : List UInt8} (hf : ∀ c ∈ f, isD c = true) (hn : n ≤ 1000000000) : Z27 s (n : Int) e f = some (if s.head? = some 45 then -((thousN n f : Nat) : Int) else ((thousN n f : Nat) : Int), e) := by
 unfold Z27
 rw [num_l1 s e _ hf hn]
 match s, h with
 | c :: r, _ =>
  have h0 : at? (c :: r) 0 = some c := rfl
  have hle : thousN n f ≤ 1000000000 := addD_le _ _
  rw [h0, Option.bind_some]
  unfold Z31
  by_cases hc : c = 45
  ·subst hc
   rw [if_pos (show decide (((45 : UInt8).toNat : Int) = 45) = true by decide), if_pos (show (45 :: r).head? = some 45 from rfl), wi_id (by omega) (by omega)]
   congr 2
   omega
  ·rw [if_neg (by simp only [decide_eq_true_eq]; intro e; exact hc (UInt8.toNat_inj.1 (by simpa using (by omega : c.toNat = 45)))), if_neg (by simpa using hc)]
theorem hasPrefix1 (l : List UInt8) (c : UInt8) : Z1d l [c] = some (decide (l.head? = some c)) := by
 unfold Z1d Z20 Z1z
 cases l with
 | nil => simp
 | cons d r =>
  rw [if_pos (by simp; omega)]
  have : sub? (d :: r) 0 (([c] : List UInt8).length : Int) = some [d] := by
   have := sub_take (l := d :: r) (b := 1) (by simp)
   simpa using this
  rw [this, Option.bind_some, Option.bind_some]
  simp
theorem isD46 : isD 46 = false := by decide
theorem num_j4 {s : List UInt8} (hs : s.length ≤ 140737488355328) {a : Nat} (ha : a ≤ s.length) (w f : List UInt8) (hw : w = (s.drop a).takeWhile isD) (hf : f = fracN ((s.drop a).drop w.length)) :
  Z1m (w.length : Int) s (a : Int) (f.length : Int) = some (if w.length + f.length = 0 then (0, 0) else
   (if s.head? = some 45 then -((thousN (w.foldl addD 0) f : Nat) : Int) else ((thousN (w.foldl addD 0) f : Nat) : Int), ((a + w.length + if f.length = 0 then 0 else 1 + f.length : Nat) : Int))) := by
 have hwl : w.length ≤ s.length - a := by
  have := dropWhile_take isD (s.drop a)
  rw [← hw, List.length_drop] at this
  omega
 have hfl : f.length ≠ 0 → 1 + f.length ≤ s.length - a - w.length ∧ (((s.drop a).drop w.length).drop 1).take f.length = f := by
  intro h0
  unfold fracN at hf
  split at hf
  ·subst hf; exact absurd rfl h0
  ·rename_i c r hr
   split at hf
   ·have h1 := congrArg List.length hr
    simp only [List.length_drop, List.length_cons] at h1
    have h2 := dropWhile_take isD r
    refine ⟨by rw [hf]; omega, ?_⟩
    rw [hr, hf]
    exact take_takeWhile isD r
   ·subst hf; exact absurd rfl h0
 have hdf : ∀ c ∈ f, isD c = true := by
  intro c hc
  rw [hf] at hc
  unfold fracN at hc
  split at hc
  ·cases hc
  ·split at hc
   ·exact fold_take _ _ hc
   ·cases hc
 have hdw : ∀ c ∈ w, isD c = true := by rw [hw]; exact fold_take _
 unfold Z1m
 have hfl2 : f.length ≤ s.length := by
  by_cases h : f.length = 0
  ·omega
  ·have := (hfl h).1; omega
 rw [wi_id (n := (w.length : Int) + f.length) (by omega) (by omega)]
 by_cases h0 : w.length + f.length = 0
 ·rw [if_pos (by simp only [decide_eq_true_eq]; omega), if_pos h0]
 ·have hne : s ≠ [] := by
   rintro rfl
   have h1 : w.length = 0 := by simpa using hwl
   by_cases h : f.length = 0
   ·omega
   ·have := (hfl h).1; simp at this
  rw [if_neg (by simp only [decide_eq_true_eq]; omega), if_neg h0, wi_id (n := (a : Int) + w.length) (by omega) (by omega), show (a : Int) + w.length = ((a + w.length : Nat) : Int) by omega, sub_nat (by omega) (by omega), Option.bind_some]
  have e1 : (s.take (a + w.length)).drop a = w := by
   rw [List.drop_take, show a + w.length - a = w.length by omega]
   have h := take_takeWhile isD (s.drop a)
   rw [← hw] at h
   exact h
  rw [e1]
  refine (lim_add (w.length + 1) fun m => ?_)
  have := num_l0 w s (a : Int) (w.length : Int) (f.length : Int)
  rw [← Nat.add_assoc]
  refine ((num_l0 w s (a : Int) (w.length : Int) (f.length : Int) _ (by omega) hdw w.length 0 0 (by omega) (by omega) m)).trans ?_
  rw [List.drop_zero]
  have hfd := foldD_le w 0 (by omega)
  by_cases hf0 : f.length = 0
  ·rw [if_neg (by simp only [decide_eq_true_eq]; omega), List.eq_nil_of_length_eq_zero hf0, num_end hne (fun c hc => by cases hc) hfd]
   simp
  ·have h3 := hfl hf0
   rw [if_pos (by simp only [decide_eq_true_eq]; omega), wi_id (n := ((a + w.length : Nat) : Int) + 1) (by omega) (by omega), wi_id (n := ((a + w.length : Nat) : Int) + 1 + f.length) (by omega) (by omega), wi_id (n := (1 : Int) + f.length) (by omega) (by omega), wi_id (by omega) (by omega),
    show ((a + w.length : Nat) : Int) + 1 = ((a + w.length + 1 : Nat) : Int) by omega, show ((a + w.length + 1 : Nat) : Int) + f.length = ((a + w.length + 1 + f.length : Nat) : Int) by omega, sub_nat (by omega) (by omega), Option.bind_some]
   have e2 : (s.take (a + w.length + 1 + f.length)).drop (a + w.length + 1) = f := by
    rw [List.drop_take, show a + w.length + 1 + f.length - (a + w.length + 1) = f.length by omega]
    have := h3.2
    rwa [List.drop_drop, List.drop_drop] at this
   rw [e2, num_end hne hdf hfd, if_neg hf0]
   congr 2
   try omega
theorem Number_eq {s : List UInt8} (hs : s.length ≤ 140737488355328) : Z32 s = some (numS s) := by
 have main : ∀ a : Nat, a = fromN s → a ≤ s.length → Z28 s (a : Int) = some (numS s) := by
  intro a hfrom ha
  obtain ⟨w, hw⟩ : ∃ w, w = (s.drop a).takeWhile isD := ⟨_, rfl⟩
  have hwl : w.length ≤ s.length - a := by
   have := dropWhile_take isD (s.drop a)
   rw [← hw, List.length_drop] at this
   omega
  unfold Z28
  rw [sub_drop ha, Option.bind_some, digits_eq (by rw [List.length_drop]; omega), Option.bind_some, ← hw, wi_id (by omega) (by omega), show (a : Int) + w.length = ((a + w.length : Nat) : Int) by omega, sub_drop (by omega), Option.bind_some, hasPrefix1, Option.bind_some]
  have e0 : s.drop (a + w.length) = (s.drop a).drop w.length := by rw [List.drop_drop]
  have fin : ∀ f, f = fracN ((s.drop a).drop w.length) → Z1m (w.length : Int) s (a : Int) (f.length : Int) = some (numS s) := by
   intro f hf
   rw [num_j4 hs ha w f hw hf]
   unfold numS
   rw [← hfrom, ← hw]
   simp only [← hf]
  rw [e0]
  cases hr : (s.drop a).drop w.length with
  | nil =>
   rw [if_neg (by simp)]
   refine fin [] ?_
   rw [hr]; rfl
  | cons c r =>
   by_cases hc : c = 46
   ·subst hc
    rw [if_pos (by simp), show (1 : Int) = ((1 : Nat) : Int) from rfl, sub_drop (by simp), Option.bind_some, digits_eq (by
     have := congrArg List.length hr
     simp only [List.length_drop, List.length_cons] at this ⊢
     omega), Option.bind_some]
    refine fin _ ?_
    rw [hr]; rfl
   ·rw [if_neg (by simpa using hc)]
    refine fin [] ?_
    rw [hr]
    show _ = if c = 46 then _ else _
    rw [if_neg hc]
 unfold Z32 Z29
 cases s with
 | nil =>
  rw [if_neg (by simp), if_neg (by simp)]
  exact main 0 rfl (by simp)
 | cons c r =>
  have h0 : at? (c :: r) 0 = some c := rfl
  have hn : ∀ k : Nat, k < 256 → ((c.toNat : Int) = (k : Int) ↔ c = UInt8.ofNat k) := fun k hk => by
   constructor
   ·intro h; rw [← UInt8.ofNat_toNat (x := c)]; congr 1; omega
   ·rintro rfl; simp; omega
  have h43 := hn 43 (by omega)
  have h45 := hn 45 (by omega)
  rw [if_pos (by simp), h0, Option.bind_some, Option.bind_some]
  by_cases c1 : c = 43
  ·rw [if_pos (by simp only [decide_eq_true_eq]; exact h43.2 c1), if_pos rfl]
   exact main 1 (by simp [fromN, c1]) (by simp)
  ·rw [if_neg (by simp only [decide_eq_true_eq]; exact fun h => c1 (h43.1 h))]
   by_cases c2 : c = 45
   ·rw [if_pos (by simp only [decide_eq_true_eq]; exact h45.2 c2)]
    exact main 1 (by simp [fromN, c2]) (by simp)
   ·rw [if_neg (by simp only [decide_eq_true_eq]; exact fun h => c2 (h45.1 h))]
    exact main 0 (by simp [fromN, c1, c2]) (by simp)
end Go.Proofs.YtaejmblphhjccaaGreatDoorBv
/- A text's tokens, as the program cuts them, as plain functions. No program is in sight. -/
namespace Go.Proofs.YtaejmblphhjccaaGreatDoorBv
open Go
set_option linter.unusedSimpArgs false
set_option linter.unusedVariables false
def isStart (c : UInt8) : Bool := decide (128 ≤ c.toNat) || decide (c = 95) || (decide (97 ≤ c.toNat) && decide (c.toNat ≤ 122)) || (decide (65 ≤ c.toNat) && decide (c.toNat ≤ 90))
def isSign (c : UInt8) : Bool := isStart c || isD c || decide (c = 45)
def escS (s : List UInt8) : Bool := match s with
 | c :: d :: _ => decide (c = 92) && !decide (d = 10)
 | _ => false
def beginsS (s : List UInt8) : Bool := match s with
 | [] => false
 | c :: d :: r => if c = 45 then decide (d = 45) || isStart d || escS (d :: r) else isStart c || escS (c :: d :: r)
 | [c] => isStart c
def addN (l : List UInt8) (k : Nat) (x : List UInt8 × Nat) : List UInt8 × Nat := (l ++ x.1, k + x.2)
def nameS : List UInt8 → List UInt8 × Nat
 | [] => ([], 0)
 | [c] => if isSign c then ([c], 1) else ([], 0)
 | c :: d :: r => if c = 92 ∧ d ≠ 10 then addN [d] 2 (nameS r) else if isSign c then addN [c] 1 (nameS (d :: r)) else ([], 0)
theorem starts_eq (c : UInt8) : Z9 (c.toNat : Int) = isStart c := by
 have := u8_all (p := fun c => Z9 (c.toNat : Int) == isStart c) (by decide +kernel) c
 simpa using this
theorem digit_eq (c : UInt8) : Zg (c.toNat : Int) = isD c := by
 unfold Zg isD
 congr 1
 ·rw [Bool.eq_iff_iff]; simp; omega
 ·rw [Bool.eq_iff_iff]; simp; omega
theorem byte_is (c : UInt8) (k : Nat) (hk : k < 256) : decide ((c.toNat : Int) = (k : Int)) = decide (c = UInt8.ofNat k) := by
 have : ((c.toNat : Int) = (k : Int)) ↔ c = UInt8.ofNat k := by
  constructor
  ·intro h; rw [← UInt8.ofNat_toNat (x := c)]; congr 1; omega
  ·rintro rfl; simp; omega
 rw [Bool.eq_iff_iff]
 simpa using this
theorem sign_eq (c : UInt8) : Z1j (c.toNat : Int) = isSign c := by
 unfold Z1j isSign
 rw [starts_eq, digit_eq]
 congr 1
 exact byte_is c 45 (by omega)
theorem escape_eq (s : List UInt8) : Z1c s = some (escS s) := by
 unfold Z1c Z22
 match s with
 | [] => rfl
 | [c] => rfl
 | c :: d :: r =>
  have h0 : at? (c :: d :: r) 0 = some c := rfl
  have h1 : at? (c :: d :: r) 1 = some d := rfl
  rw [if_pos (by simp; omega), h0, Option.bind_some, h1, Option.bind_some]
  unfold escS
  rw [show decide ((c.toNat : Int) = 92) = decide (c = 92) from byte_is c 92 (by omega), show decide ((d.toNat : Int) = 10) = decide (d = 10) from byte_is d 10 (by omega)]
  by_cases hc : c = 92 <;> simp [hc]
theorem begins_eq (s : List UInt8) : Z1k s = some (beginsS s) := by
 unfold Z1k Z24 Z30
 match s with
 | [] => rfl
 | [c] =>
  have h0 : at? [c] 0 = some c := rfl
  rw [if_neg (by simp), h0, Option.bind_some, if_neg (by simp), Option.bind_some, starts_eq, escape_eq, Option.bind_some]
  show (if isStart c = true then some true else some false) = some (isStart c)
  cases isStart c <;> rfl
 | c :: d :: r =>
  have h0 : at? (c :: d :: r) 0 = some c := rfl
  have h1 : at? (c :: d :: r) 1 = some d := rfl
  have hs : sub? (c :: d :: r) 1 (((c :: d :: r).length : Nat) : Int) = some (d :: r) := sub_drop (a := 1) (by simp)
  rw [if_neg (by simp), h0, Option.bind_some, Option.bind_some, starts_eq, escape_eq, Option.bind_some, h1, Option.bind_some, Option.bind_some, starts_eq, hs, Option.bind_some, escape_eq, Option.bind_some,
   show decide ((c.toNat : Int) = 45) = decide (c = 45) from byte_is c 45 (by omega), show decide ((d.toNat : Int) = 45) = decide (d = 45) from byte_is d 45 (by omega)]
  rw [show beginsS (c :: d :: r) = if c = 45 then decide (d = 45) || isStart d || escS (d :: r) else isStart c || escS (c :: d :: r) from rfl]
  by_cases hc : c = 45
  ·rw [if_pos (by simp [hc]; omega), if_pos hc]
   by_cases hd : d = 45
   ·rw [if_pos (by simp [hd])]; simp [hd]
   ·rw [if_neg (by simp [hd])]
    cases isStart d <;> simp [hd]
  ·rw [if_neg (by simp [hc]), if_neg hc]
   cases isStart c <;> simp
theorem wb_eq {l : List UInt8} {c : UInt8} (h : l.length < 140737488355328) : Z21 l (c.toNat : Int) = some (l ++ [c]) := by
 show bWriteByte? l (c.toNat : Int) = _
 unfold bWriteByte?
 have := c.toNat_lt
 rw [if_pos ⟨by omega, by omega, by omega⟩]
 simp
theorem name_l0 (s : List UInt8) (hl : s.length < 140737488355328) : ∀ (N i : Nat) (b : List UInt8), s.length - i < N → i ≤ s.length → b.length ≤ i →
  Zq s (fun b i => some (b, i)) N b (i : Int) = some (b ++ (nameS (s.drop i)).1, ((i + (nameS (s.drop i)).2 : Nat) : Int))
 | 0, i, b, hN, hi, hb => by omega
 | N + 1, i, b, hN, hi, hb => by
  rw [Zq]
  by_cases h : i < s.length
  ·rw [if_pos (by simp only [decide_eq_true_eq]; omega), sub_drop hi, Option.bind_some, escape_eq, Option.bind_some, at_some h, Option.bind_some, Option.bind_some, sign_eq, wb_eq (by omega), Option.bind_some, wi_id (n := (i : Int) + 1) (by omega) (by omega), wi_id (n := (i : Int) + 2) (by omega) (by omega),
    show (i : Int) + 1 = ((i + 1 : Nat) : Int) by omega, show (i : Int) + 2 = ((i + 2 : Nat) : Int) by omega]
   have e1 := List.drop_eq_getElem_cons h
   rw [e1]
   by_cases h2 : i + 1 < s.length
   ·have e2 := List.drop_eq_getElem_cons h2
    rw [e2, at_some h2, Option.bind_some, wb_eq (by omega), Option.bind_some, name_l0 s hl N (i + 2) _ (by omega) (by omega) (by simp; omega), name_l0 s hl N (i + 1) _ (by omega) (by omega) (by simp; omega)]
    unfold escS
    rw [show s.drop (i + 2) = s.drop (i + 1 + 1) from rfl]
    rw [show nameS (s[i] :: s[i + 1] :: s.drop (i + 1 + 1)) = if s[i] = 92 ∧ s[i + 1] ≠ 10 then addN [s[i + 1]] 2 (nameS (s.drop (i + 1 + 1))) else if isSign s[i] then addN [s[i]] 1 (nameS (s[i + 1] :: s.drop (i + 1 + 1))) else ([], 0) by rw [nameS]]
    by_cases hc : s[i] = 92 ∧ s[i + 1] ≠ 10
    ·rw [if_pos (by simp [hc.1, hc.2]), if_pos hc]
     simp [addN]
     omega
    ·rw [if_neg (by simp only [Bool.and_eq_true, decide_eq_true_eq, Bool.not_eq_true', decide_eq_false_iff_not]; exact hc), if_neg hc, e2]
     cases isSign s[i] with
     | true => simp [addN]; omega
     | false => simp
   ·have e2 : s.drop (i + 1) = [] := List.drop_eq_nil_of_le (by omega)
    rw [e2, name_l0 s hl N (i + 1) _ (by omega) (by omega) (by simp; omega), e2, show escS [s[i]] = false from rfl, if_neg (by simp), show nameS [s[i]] = if isSign s[i] then ([s[i]], 1) else ([], 0) by rw [nameS], show nameS [] = ([], 0) by rw [nameS]]
    cases isSign s[i] <;> simp
  ·rw [if_neg (by simp only [decide_eq_true_eq]; omega), List.drop_eq_nil_of_le (by omega), show nameS [] = ([], 0) by rw [nameS]]
   simp
theorem name_eq {s : List UInt8} (hl : s.length < 140737488355328) : Z23 s = some ((nameS s).1, ((nameS s).2 : Int)) := by
 unfold Z23
 refine lim_of (s.length + 1) fun k hk => ?_
 have := name_l0 s hl k 0 [] (by omega) (by omega) (by simp)
 simpa using this
theorem nameS_le : ∀ (n : Nat) (s : List UInt8), s.length = n → (nameS s).2 ≤ s.length := by
 intro n
 induction n using Nat.strongRecOn with
 | _ n ih =>
  intro s hs
  match s with
  | [] => simp [nameS]
  | [c] => rw [nameS]; split <;> simp
  | c :: d :: r =>
   rw [nameS]
   simp only [List.length_cons] at hs
   split
   ·have := ih r.length (by omega) r rfl
    simp [addN]; omega
   ·split
    ·have := ih (r.length + 1) (by omega) (d :: r) rfl
     simp [addN] at this ⊢; omega
    ·simp
theorem named_eq {kind : Int} {s : List UInt8} {a : Nat} (hl : s.length < 140737488355328) (ha : a ≤ s.length) :
  Zr kind s (a : Int) = some ⟨kind, s.take (a + (nameS (s.drop a)).2), (nameS (s.drop a)).1, 0⟩ := by
 have h1 := nameS_le _ (s.drop a) rfl
 rw [List.length_drop] at h1
 unfold Zr
 rw [sub_drop ha, Option.bind_some, name_eq (by rw [List.length_drop]; omega), Option.bind_some, wi_id (by omega) (by omega), show (a : Int) + ((nameS (s.drop a)).2 : Int) = ((a + (nameS (s.drop a)).2 : Nat) : Int) by omega, sub_take (by omega), Option.bind_some]
theorem set_self {α : Type} {l : List α} {i : Nat} {a : α} (h : l[i]? = some a) : l.set i a = l := by
 obtain ⟨h1, h2⟩ := List.getElem?_eq_some_iff.1 h
 rw [← h2]
 exact List.set_getElem_self h1
def lowB (c : UInt8) : UInt8 := if 65 ≤ c.toNat ∧ c.toNat ≤ 90 then c + 32 else c
theorem lower_l0 (s : List UInt8) (hl : s.length < 140737488355328) : ∀ (N i : Nat), s.length - i < N → i ≤ s.length →
  Zu (fun b => some (byts b)) N (ints ((s.take i).map lowB ++ s.drop i)) (s.length : Int) (i : Int) = some (s.map lowB)
 | 0, i, hN, hi => by omega
 | N + 1, i, hN, hi => by
  rw [Zu]
  by_cases h : i < s.length
  ·have hlen : ((s.take i).map lowB).length = i := by simp; omega
   have hg : ((s.take i).map lowB ++ s.drop i)[i]? = some s[i] := by
    rw [List.getElem?_append_right (by omega), hlen]
    simp [h]
   have ih := lower_l0 s hl N (i + 1) (by omega) (by omega)
   have eset : ((s.take i).map lowB ++ s.drop i).set i (lowB s[i]) = (s.take (i + 1)).map lowB ++ s.drop (i + 1) := by
    rw [List.set_append_right _ _ (by omega), hlen, List.drop_eq_getElem_cons h, Nat.sub_self, List.set_cons_zero, List.take_add_one, List.getElem?_eq_getElem h]
    simp only [Option.toList_some, List.map_append, List.map_cons, List.map_nil, List.append_assoc, List.cons_append, List.nil_append]
   rw [if_pos (by simp only [decide_eq_true_eq]; omega), at_nat, ints_get, hg, Option.map_some, Option.bind_some]
   unfold Z33
   rw [wi_id (by omega) (by omega), show (i : Int) + 1 = ((i + 1 : Nat) : Int) by omega]
   have hint : ∀ c : UInt8, (ints ((s.take i).map lowB ++ s.drop i)).set i (c.toNat : Int) = ints (((s.take i).map lowB ++ s.drop i).set i c) := by
    intro c
    unfold ints
    rw [List.map_set]
   by_cases hc : 65 ≤ s[i].toNat ∧ s[i].toNat ≤ 90
   ·have e : lowB s[i] = s[i] + 32 := by unfold lowB; rw [if_pos hc]
    have e2 : wr .u8 ((s[i].toNat : Int) + 32) = ((lowB s[i]).toNat : Int) := by
     rw [e, wr_u8, UInt8.toNat_add]
     have : (32 : UInt8).toNat = 32 := rfl
     omega
    rw [if_pos (by simp; omega), Option.bind_some, e2, show ((i : Int)).toNat = i from rfl, hint, eset]
    exact ih
   ·have e : lowB s[i] = s[i] := by unfold lowB; rw [if_neg hc]
    rw [if_neg (by simp; omega)]
    have : (s.take i).map lowB ++ s.drop i = (s.take (i + 1)).map lowB ++ s.drop (i + 1) := by
     rw [← eset, e]
     exact (set_self hg).symm
    rw [this]
    exact ih
  ·have : i = s.length := by omega
   subst this
   rw [if_neg (by simp)]
   simp [byts_ints]
theorem lower_eq {s : List UInt8} (hl : s.length < 140737488355328) : Z34 s = some (s.map lowB) := by
 unfold Z34
 refine lim_of (s.length + 1) fun k hk => ?_
 have := lower_l0 s hl k 0 (by omega) (by omega)
 rw [ints_length]
 simpa using this
def numberS (s : List UInt8) (num : Int) (n : Nat) : TSToken := match s.drop n with
 | [] => ⟨7, s.take n, [], num⟩
 | c :: r => if c = 37 then ⟨7, s.take (n + 1), [37], num⟩ else if beginsS (c :: r) then ⟨7, s.take (n + (nameS (c :: r)).2), (nameS (c :: r)).1.map lowB, num⟩ else ⟨7, s.take n, [], num⟩
theorem nameS_len : ∀ (n : Nat) (s : List UInt8), s.length = n → (nameS s).1.length ≤ s.length := by
 intro n
 induction n using Nat.strongRecOn with
 | _ n ih =>
  intro s hs
  match s with
  | [] => simp [nameS]
  | [c] => rw [nameS]; split <;> simp
  | c :: d :: r =>
   rw [nameS]
   simp only [List.length_cons] at hs
   split
   ·have := ih r.length (by omega) r rfl
    simp [addN]; omega
   ·split
    ·have := ih (r.length + 1) (by omega) (d :: r) rfl
     simp [addN] at this ⊢; omega
    ·simp
theorem number_eq {s : List UInt8} {num : Int} {n : Nat} (hl : s.length < 140737488355328) (hn : n ≤ s.length) : Z35 s num (n : Int) = some (numberS s num n) := by
 unfold Z35 Z2a numberS
 rw [sub_take hn, Option.bind_some, sub_drop hn, Option.bind_some, hasPrefix1, Option.bind_some, begins_eq, Option.bind_some]
 cases hd : s.drop n with
 | nil => rfl
 | cons c r =>
  have hlr := congrArg List.length hd
  simp only [List.length_drop, List.length_cons] at hlr
  simp only [List.head?_cons, Option.some.injEq]
  by_cases hc : c = 37
  ·rw [if_pos (by simpa using hc), if_pos hc, wi_id (by omega) (by omega), show (n : Int) + 1 = ((n + 1 : Nat) : Int) by omega, sub_take (by omega), Option.bind_some]
  ·rw [if_neg (by simpa using hc), if_neg hc]
   cases hb : beginsS (c :: r) with
   | false => rfl
   | true =>
    have h1 := nameS_le _ (c :: r) rfl
    have h2 := nameS_len _ (c :: r) rfl
    simp only [List.length_cons] at h1 h2
    rw [if_pos rfl, if_pos rfl, name_eq (by simp only [List.length_cons]; omega), Option.bind_some, wi_id (by omega) (by omega), show (n : Int) + ((nameS (c :: r)).2 : Int) = ((n + (nameS (c :: r)).2 : Nat) : Int) by omega, sub_take (by omega), Option.bind_some, lower_eq (s := (nameS (c :: r)).1) (by omega), Option.bind_some]
/-- a text between quotes 'q', behind the first: its value, how many bytes, and how it ends: 0 with the quote, 1 with a line's end, 2 with the text's -/
def textS (q : UInt8) : List UInt8 → List UInt8 × Nat × Nat
 | [] => ([], 0, 2)
 | [c] => if c = q then ([], 0, 0) else if c = 10 then ([], 0, 1) else ([c], 1, 2)
 | c :: d :: r => if c = q then ([], 0, 0) else if c = 10 then ([], 0, 1) else if c = 92 then (let x := textS q r; (d :: x.1, x.2.1 + 2, x.2.2)) else (let x := textS q (d :: r); (c :: x.1, x.2.1 + 1, x.2.2))
def textT (s : List UInt8) (b : List UInt8) (i : Nat) (x : List UInt8 × Nat × Nat) : TSToken :=
 if x.2.2 = 0 then ⟨5, s.take (i + x.2.1 + 1), b ++ x.1, 0⟩ else if x.2.2 = 1 then ⟨6, s.take (i + x.2.1), [], 0⟩ else ⟨6, s, [], 0⟩
theorem text_l0 (s : List UInt8) (q : UInt8) (hq : s[0]? = some q) (hl : s.length < 140737488355328) : ∀ (N i : Nat) (b : List UInt8), s.length - i < N → i ≤ s.length → b.length ≤ i →
  Zp s (fun _ => some ⟨6, s, [], 0⟩) N b (i : Int) = some (textT s b i (textS q (s.drop i)))
 | 0, i, b, hN, hi, hb => by omega
 | N + 1, i, b, hN, hi, hb => by
  rw [Zp]
  have a0 : at? s 0 = some q := by
   have := at_nat s 0
   rw [hq] at this
   exact this
  by_cases h : i < s.length
  ·rw [if_pos (by simp only [decide_eq_true_eq]; omega), at_some h, Option.bind_some, a0, Option.bind_some]
   have e1 := List.drop_eq_getElem_cons h
   have eq0 : decide ((s[i].toNat : Int) = (q.toNat : Int)) = decide (s[i] = q) := by
    have := byte_is s[i] q.toNat q.toNat_lt
    rwa [UInt8.ofNat_toNat] at this
   rw [eq0, show decide ((s[i].toNat : Int) = 10) = decide (s[i] = 10) from byte_is _ 10 (by omega), show decide ((s[i].toNat : Int) = 92) = decide (s[i] = 92) from byte_is _ 92 (by omega), wi_id (n := (i : Int) + 1) (by omega) (by omega), show (i : Int) + 1 = ((i + 1 : Nat) : Int) by omega, sub_take (by omega), Option.bind_some, sub_take hi, Option.bind_some, wb_eq (by omega), Option.bind_some]
   unfold Z2y
   rw [wi_id (n := ((i + 1 : Nat) : Int) + 1) (by omega) (by omega), wi_id (n := (i : Int) + 1) (by omega) (by omega), show ((i + 1 : Nat) : Int) + 1 = ((i + 2 : Nat) : Int) by omega, show (i : Int) + 1 = ((i + 1 : Nat) : Int) by omega]
   rw [text_l0 s q hq hl N (i + 1) (b ++ [s[i]]) (by omega) (by omega) (by simp; omega), e1]
   by_cases h2 : i + 1 < s.length
   ·have e2 := List.drop_eq_getElem_cons h2
    rw [e2, textS, at_some h2, Option.bind_some, wb_eq (by omega), Option.bind_some, text_l0 s q hq hl N (i + 2) (b ++ [s[i + 1]]) (by omega) (by omega) (by simp; omega)]
    by_cases c1 : s[i] = q
    ·rw [if_pos (by simpa using c1), if_pos c1]; simp [textT]
    ·rw [if_neg (by simpa using c1), if_neg c1]
     by_cases c2 : s[i] = 10
     ·rw [if_pos (by simpa using c2), if_pos c2]; simp [textT]
     ·rw [if_neg (by simpa using c2), if_neg c2]
      by_cases c3 : s[i] = 92
      ·rw [if_pos (by simp [c3]; omega), if_pos c3]
       simp only [textT, List.append_assoc, List.cons_append, List.nil_append]
       rw [show i + 2 + (textS q (s.drop (i + 2))).2.1 + 1 = i + ((textS q (s.drop (i + 2))).2.1 + 2) + 1 by omega, show i + 2 + (textS q (s.drop (i + 2))).2.1 = i + ((textS q (s.drop (i + 2))).2.1 + 2) by omega]
      ·rw [if_neg (by simp [c3]), if_neg c3]
       simp only [textT, List.append_assoc, List.cons_append, List.nil_append]
       generalize textS q (s[i + 1] :: s.drop (i + 1 + 1)) = x
       rw [show i + 1 + x.2.1 + 1 = i + (x.2.1 + 1) + 1 by omega, show i + 1 + x.2.1 = i + (x.2.1 + 1) by omega]
   ·have e2 : s.drop (i + 1) = [] := List.drop_eq_nil_of_le (by omega)
    rw [e2, show textS q [] = ([], 0, 2) by rw [textS], show textS q [s[i]] = if s[i] = q then ([], 0, 0) else if s[i] = 10 then ([], 0, 1) else ([s[i]], 1, 2) by rw [textS]]
    by_cases c1 : s[i] = q
    ·rw [if_pos (by simpa using c1), if_pos c1]; simp [textT]
    ·rw [if_neg (by simpa using c1), if_neg c1]
     by_cases c2 : s[i] = 10
     ·rw [if_pos (by simpa using c2), if_pos c2]; simp [textT]
     ·rw [if_neg (by simpa using c2), if_neg c2, if_neg (by simp; intros; omega)]
      simp [textT]
  ·rw [if_neg (by simp only [decide_eq_true_eq]; omega), List.drop_eq_nil_of_le (by omega), show textS q [] = ([], 0, 2) by rw [textS]]
   simp [textT]
theorem text_eq {s : List UInt8} {q : UInt8} (hq : s[0]? = some q) (hl : s.length < 140737488355328) : Z2z s = some (textT s [] 1 (textS q (s.drop 1))) := by
 have hne : 1 ≤ s.length := by
  cases s with
  | nil => cases hq
  | cons => simp
 unfold Z2z
 exact lim_of (s.length + 1) fun k hk => text_l0 s q hq hl k 1 [] (by omega) hne (by simp)
end Go.Proofs.YtaejmblphhjccaaGreatDoorBv
/- The first token of a text, and all of them, as the program cuts them. No program is in sight. -/
namespace Go.Proofs.YtaejmblphhjccaaGreatDoorBv
open Go
set_option linter.unusedSimpArgs false
set_option linter.unusedVariables false
deriving instance DecidableEq for TSToken
def isBlank (c : UInt8) : Bool := decide (c = 32) || decide (c = 9) || decide (c = 10) || decide (c = 12) || decide (c = 13)
def nameT (s : List UInt8) : TSToken :=
 let k := (nameS s).2
 if (s.drop k).head? = some 40 then ⟨2, s.take (k + 1), (nameS s).1, 0⟩ else ⟨1, s.take k, (nameS s).1, 0⟩
def namedT (kind : Int) (s : List UInt8) : TSToken := ⟨kind, s.take (1 + (nameS (s.drop 1)).2), (nameS (s.drop 1)).1, 0⟩
def oneS (c : UInt8) : Int := if c = 40 ∨ c = 91 ∨ c = 123 then 10 else if c = 41 ∨ c = 93 ∨ c = 125 then 11 else if c = 92 then 6 else 12
/-- where a remark ends -/
def noteI : List UInt8 → Option Nat
 | [] => none
 | [_] => none
 | c :: d :: r => if c = 42 ∧ d = 47 then some 0 else (noteI (d :: r)).map (· + 1)
def noteT (s : List UInt8) : TSToken := ⟨9, match noteI (s.drop 2) with | some k => s.take (k + 4) | none => s, [], 0⟩
theorem noteI_le : ∀ (l : List UInt8) (k : Nat), noteI l = some k → k + 2 ≤ l.length
 | [], k, h => by cases h
 | [_], k, h => by cases h
 | c :: d :: r, k, h => by
  unfold noteI at h
  split at h
  ·cases h; simp
  ·cases hn : noteI (d :: r) with
   | none => rw [hn] at h; cases h
   | some j =>
    rw [hn] at h
    cases h
    have := noteI_le (d :: r) j hn
    simp only [List.length_cons] at this ⊢
    omega
theorem index_note : ∀ (l : List UInt8), Lib.index l [42, 47] = match noteI l with | some k => (k : Int) | none => -1
 | [] => rfl
 | [c] => by simp [Lib.index, noteI, List.isPrefixOf]
 | c :: d :: r => by
  have ih := index_note (d :: r)
  unfold Lib.index noteI
  have e : ([42, 47] : List UInt8).isPrefixOf (c :: d :: r) = decide (c = 42 ∧ d = 47) := by
   simp only [List.isPrefixOf, Bool.and_true]
   rw [Bool.eq_iff_iff]
   simp
   constructor
   ·rintro ⟨rfl, rfl⟩; exact ⟨rfl, rfl⟩
   ·rintro ⟨rfl, rfl⟩; exact ⟨rfl, rfl⟩
  rw [e]
  by_cases h : c = 42 ∧ d = 47
  ·rw [if_pos (by simpa using h), if_pos h]; rfl
  ·rw [if_neg (by simpa using h), if_neg h, ih]
   cases noteI (d :: r) with
   | none => rfl
   | some k =>
    simp only [Option.map_some]
    have hne : ¬ (((k : Int) == -1) = true) := by simp
    rw [if_neg hne]
    rfl
def hashB (r : List UInt8) : Bool := match r with
 | [] => false
 | d :: _ => isSign d || escS r
def tokS (c : UInt8) (r : List UInt8) : TSToken :=
 if c = 39 ∨ c = 34 then textT (c :: r) [] 1 (textS c r)
 else if c = 35 ∧ hashB r = true then namedT 4 (c :: r)
 else if c = 64 ∧ beginsS r = true then namedT 3 (c :: r)
 else if 0 < (numS (c :: r)).2 then numberS (c :: r) (numS (c :: r)).1 (numS (c :: r)).2.toNat
 else if beginsS (c :: r) then nameT (c :: r)
 else ⟨oneS c, [c], [], 0⟩
def firstS (s : List UInt8) : TSToken :=
 if s.takeWhile isBlank ≠ [] then ⟨8, s.takeWhile isBlank, [], 0⟩
 else if s.take 2 = [47, 42] then noteT s
 else match s with
  | [] => ⟨12, [], [], 0⟩
  | c :: r => tokS c r
theorem blanks_eq (c : UInt8) : ([32, 9, 10, 12, 13] : List UInt8).contains c = isBlank c := by
 have := u8_all (p := fun c => ([32, 9, 10, 12, 13] : List UInt8).contains c == isBlank c) (by decide +kernel) c
 simpa using this
theorem trim_eq (s : List UInt8) : Z2w s [32, 9, 10, 12, 13] = some (s.dropWhile isBlank) := by
 show trimLeft? _ _ = _
 unfold trimLeft?
 rw [if_pos (by decide)]
 unfold Lib.trimLeftS
 congr 2
 funext c
 exact blanks_eq c
theorem prefix2 (s : List UInt8) (a b : UInt8) : Z2x s [a, b] = some (if s.take 2 = [a, b] then (s.drop 2, true) else (s, false)) := by
 unfold Z2x Z45 Z20 Z1z
 by_cases hl : 2 ≤ s.length
 ·have e1 : sub? s 0 ((([a, b] : List UInt8).length : Nat) : Int) = some (s.take 2) := sub_take (b := 2) hl
  have e2 : sub? s ((([a, b] : List UInt8).length : Nat) : Int) (s.length : Int) = some (s.drop 2) := sub_drop (a := 2) hl
  rw [if_pos (by simp; omega), e1, Option.bind_some, Option.bind_some, e2]
  by_cases h : s.take 2 = [a, b]
  ·rw [if_neg (by simp [h]), if_pos h]; rfl
  ·rw [if_pos (by simp [h]), if_neg h]; rfl
 ·rw [if_neg (by simp; omega), Option.bind_some, if_pos (by rfl), if_neg (by
   intro h
   have := congrArg List.length h
   simp at this
   omega)]
  rfl
theorem one_eq (k : Int) (c : UInt8) (r : List UInt8) : Z1e k (c :: r) = some ⟨k, [c], [], 0⟩ := by
 unfold Z1e
 have : sub? (c :: r) 0 1 = some [c] := sub_take (b := 1) (by simp)
 rw [this, Option.bind_some]
theorem nameT_eq {s : List UInt8} (hl : s.length < 140737488355328) : (Zr 1 s 0).bind (fun r_11 =>
  (sub? s (r_11.Raw.length : Int) (s.length : Int)).bind fun r_12 =>
  (Z1d r_12 [40]).bind fun r_13 =>
  if r_13 then
   (sub? s 0 (wi ((r_11.Raw.length : Int) + 1))).bind fun r_14 =>
   Z1n r_11 2 r_14
  else
   Z1n r_11 r_11.Kind r_11.Raw) = some (nameT s) := by
 have h1 := named_eq (kind := 1) (s := s) (a := 0) hl (Nat.zero_le _)
 have h2 := nameS_le _ s rfl
 rw [show (((0 : Nat)) : Int) = 0 from rfl, List.drop_zero, Nat.zero_add] at h1
 have e : (s.take (nameS s).2).length = (nameS s).2 := by rw [List.length_take]; omega
 rw [h1, Option.bind_some]
 simp only [e]
 rw [sub_drop h2, Option.bind_some, hasPrefix1, Option.bind_some]
 unfold nameT Z1n
 by_cases h : (s.drop (nameS s).2).head? = some 40
 ·have h3 : (nameS s).2 < s.length := by
   rcases Nat.lt_or_ge (nameS s).2 s.length with h | h'
   ·exact h
   ·rw [List.drop_eq_nil_of_le h'] at h; cases h
  rw [if_pos (by simpa using h), wi_id (by omega) (by omega), show ((nameS s).2 : Int) + 1 = (((nameS s).2 + 1 : Nat) : Int) by omega, sub_take (by omega), Option.bind_some]
  simp only [if_pos h]
 ·rw [if_neg (by simpa using h)]
  simp only [if_neg h]
theorem fracN_le (l : List UInt8) : (if (fracN l).length = 0 then 0 else 1 + (fracN l).length) ≤ l.length := by
 unfold fracN
 cases l with
 | nil => simp
 | cons c r =>
  have := dropWhile_take isD r
  simp only [List.length_cons]
  by_cases hc : c = 46
  ·rw [if_pos hc]
   split <;> omega
  ·rw [if_neg hc]; simp
theorem numS_le (s : List UInt8) : 0 ≤ (numS s).2 ∧ (numS s).2 ≤ s.length := by
 unfold numS
 simp only
 split
 ·simp
 ·refine ⟨Int.natCast_nonneg _, ?_⟩
  have h1 : fromN s ≤ s.length := by
   unfold fromN
   split
   ·simp
   ·simp; split <;> omega
  have h2 := dropWhile_take isD (s.drop (fromN s))
  have h3 := fracN_le ((s.drop (fromN s)).drop ((s.drop (fromN s)).takeWhile isD).length)
  rw [List.length_drop] at h2
  rw [List.length_drop, List.length_drop] at h3
  omega
theorem j3_eq {c : UInt8} {r : List UInt8} (hl : (c :: r).length < 140737488355328) : Z1o (c :: r) false = some (if 0 < (numS (c :: r)).2 then numberS (c :: r) (numS (c :: r)).1 (numS (c :: r)).2.toNat
 else if beginsS (c :: r) then nameT (c :: r)
 else ⟨oneS c, [c], [], 0⟩) := by
 unfold Z1o
 rw [if_neg (by simp), Number_eq (by omega), Option.bind_some]
 have hn := numS_le (c :: r)
 by_cases h0 : 0 < (numS (c :: r)).2
 ·rw [if_pos (by simpa using h0), if_pos h0]
  have e : ((numS (c :: r)).2.toNat : Int) = (numS (c :: r)).2 := by omega
  rw [← e, number_eq hl (by omega), Option.bind_some]
  rfl
 ·rw [if_neg (by simpa using h0), if_neg h0, begins_eq, Option.bind_some]
  cases hb : beginsS (c :: r) with
  | true => rw [if_pos rfl, if_pos rfl]; exact nameT_eq hl
  | false =>
   rw [if_neg (by simp), if_neg (by simp)]
   have h0 : at? (c :: r) 0 = some c := rfl
   rw [h0, Option.bind_some]
   rw [show decide ((c.toNat : Int) = 40) = decide (c = 40) from byte_is c 40 (by omega), show decide ((c.toNat : Int) = 91) = decide (c = 91) from byte_is c 91 (by omega), show decide ((c.toNat : Int) = 123) = decide (c = 123) from byte_is c 123 (by omega)]
   unfold Z2c Z2b oneS
   rw [show decide ((c.toNat : Int) = 41) = decide (c = 41) from byte_is c 41 (by omega), show decide ((c.toNat : Int) = 93) = decide (c = 93) from byte_is c 93 (by omega), show decide ((c.toNat : Int) = 125) = decide (c = 125) from byte_is c 125 (by omega), show decide ((c.toNat : Int) = 92) = decide (c = 92) from byte_is c 92 (by omega)]
   simp only [one_eq, Option.bind_some]
   by_cases c1 : c = 40
   ·subst c1; rfl
   by_cases c2 : c = 91
   ·subst c2; rfl
   by_cases c3 : c = 123
   ·subst c3; rfl
   by_cases c4 : c = 41
   ·subst c4; rfl
   by_cases c5 : c = 93
   ·subst c5; rfl
   by_cases c6 : c = 125
   ·subst c6; rfl
   by_cases c7 : c = 92
   ·subst c7; rfl
   simp [c1, c2, c3, c4, c5, c6, c7]
theorem first_eq {s : List UInt8} (hs : s ≠ []) (hl : s.length < 4294967281) : Z37 s = some (firstS s) := by
 have hdt := dropWhile_take isBlank s
 have htk := take_takeWhile isBlank s
 unfold Z37 firstS
 rw [trim_eq, Option.bind_some, wi_id (by omega) (by omega), show (s.length : Int) - ((s.dropWhile isBlank).length : Int) = ((s.takeWhile isBlank).length : Int) by omega]
 by_cases hb : s.takeWhile isBlank = []
 ·rw [if_neg (by simp [hb]), if_neg (by simp [hb]), prefix2, Option.bind_some]
  by_cases hp : s.take 2 = [47, 42]
  ·rw [if_pos hp, if_pos hp, if_pos rfl]
   have h2 : 2 ≤ s.length := by
    have := congrArg List.length hp
    simp at this
    omega
   have hi : Z4p (s.drop 2) [42, 47] = some (Lib.index (s.drop 2) [42, 47]) := by
    show index? _ _ = _
    unfold index?
    rw [if_pos (by rw [List.length_drop]; omega)]
   rw [hi, Option.bind_some]
   unfold Z36 noteT
   rw [index_note]
   cases hn : noteI (s.drop 2) with
   | none => rw [if_neg (by decide)]
   | some k =>
    have hle := noteI_le _ _ hn
    rw [List.length_drop] at hle
    show (if decide (0 ≤ (k : Int)) = true then ((sub? s 0 (wi ((k : Int) + 4))).bind fun r_4 => some (⟨9, r_4, [], 0⟩ : TSToken)) else _) = _
    rw [if_pos (by simp), wi_id (by omega) (by omega), show (k : Int) + 4 = ((k + 4 : Nat) : Int) by omega, sub_take (by omega), Option.bind_some]
  ·rw [if_neg hp, if_neg hp, if_neg (by simp)]
   match s, hs with
   | c :: r, _ =>
    have h0 : at? (c :: r) 0 = some c := rfl
    rw [h0, Option.bind_some, show decide ((c.toNat : Int) = 39) = decide (c = 39) from byte_is c 39 (by omega), show decide ((c.toNat : Int) = 34) = decide (c = 34) from byte_is c 34 (by omega), show decide ((c.toNat : Int) = 35) = decide (c = 35) from byte_is c 35 (by omega)]
    show _ = some (tokS c r)
    unfold tokS
    by_cases cq : c = 39 ∨ c = 34
    ·rw [if_pos (by simpa using cq), if_pos cq, text_eq (q := c) rfl (by omega), Option.bind_some]
     rfl
    ·rw [if_neg (by simpa using cq), if_neg cq]
     have n4 : Zr 4 (c :: r) 1 = some (namedT 4 (c :: r)) := named_eq (a := 1) (by omega) (by simp)
     have n3 : Zr 3 (c :: r) 1 = some (namedT 3 (c :: r)) := named_eq (a := 1) (by omega) (by simp)
     have hsub : sub? (c :: r) 1 (((c :: r).length : Nat) : Int) = some r := sub_drop (a := 1) (by simp)
     have j2 : Z14 (c :: r) c false = some (if c = 64 ∧ beginsS r = true then namedT 3 (c :: r)
       else if 0 < (numS (c :: r)).2 then numberS (c :: r) (numS (c :: r)).1 (numS (c :: r)).2.toNat
       else if beginsS (c :: r) then nameT (c :: r)
       else ⟨oneS c, [c], [], 0⟩) := by
      unfold Z14
      rw [if_neg (by simp), show decide ((c.toNat : Int) = 64) = decide (c = 64) from byte_is c 64 (by omega), hsub, Option.bind_some, begins_eq, Option.bind_some, j3_eq (by omega)]
      by_cases c64 : c = 64
      ·rw [if_pos (by simpa using c64)]
       cases hb : beginsS r with
       | true =>
        rw [if_pos ⟨c64, rfl⟩]
        unfold Z1o
        rw [if_pos rfl, n3, Option.bind_some]
       | false => rw [if_neg (by simp), j3_eq (by omega)]
      ·have n64 : ¬ (c = 64 ∧ beginsS r = true) := fun h => c64 h.1
       rw [if_neg (by simpa using c64), if_neg n64]
     by_cases c35 : c = 35
     ·cases r with
      | nil =>
       have nh : ¬ (c = 35 ∧ hashB [] = true) := fun h => by cases h.2
       rw [if_neg (by simp), j2, if_neg nh]
      | cons d r =>
       have h1 : at? (c :: d :: r) 1 = some d := rfl
       rw [if_pos (by simp [c35]; omega), h1, Option.bind_some, sign_eq, hsub, Option.bind_some, escape_eq, Option.bind_some]
       have jt : Z14 (c :: d :: r) c true = some (namedT 4 (c :: d :: r)) := by
        unfold Z14
        rw [if_pos rfl, n4, Option.bind_some]
       cases hsd : isSign d with
       | true => rw [if_pos rfl, jt, if_pos ⟨c35, by simp [hashB, hsd]⟩]
       | false =>
        rw [if_neg (by simp)]
        cases he : escS (d :: r) with
        | true => rw [jt, if_pos ⟨c35, by simp [hashB, hsd, he]⟩]
        | false =>
         have nh : ¬ (c = 35 ∧ hashB (d :: r) = true) := fun h => by have := h.2; simp [hashB, hsd, he] at this
         rw [j2, if_neg nh]
     ·have nh : ¬ (c = 35 ∧ hashB r = true) := fun h => c35 h.1
      rw [if_neg (by simp [c35]), j2, if_neg nh]
 ·have hpos : 0 < (s.takeWhile isBlank).length := List.length_pos_iff.2 hb
  rw [if_pos (by simp only [decide_eq_true_eq]; omega), if_pos hb, sub_take (by omega), Option.bind_some, htk]
end Go.Proofs.YtaejmblphhjccaaGreatDoorBv
/- All tokens of a text, as the program cuts them. No program is in sight. -/
namespace Go.Proofs.YtaejmblphhjccaaGreatDoorBv
open Go
set_option linter.unusedSimpArgs false
set_option linter.unusedVariables false
theorem take_pos {s : List UInt8} {m : Nat} (hs : s ≠ []) (h : 1 ≤ m) : 1 ≤ (s.take m).length ∧ (s.take m).length ≤ s.length := by
 have := List.length_pos_iff.2 hs
 rw [List.length_take]
 omega
theorem all_pos {s : List UInt8} (hs : s ≠ []) : 1 ≤ s.length ∧ s.length ≤ s.length := ⟨List.length_pos_iff.2 hs, Nat.le_refl _⟩
theorem nameS_pos {s : List UInt8} (h : beginsS s = true) : 1 ≤ (nameS s).2 := by
 match s, h with
 | [c], h =>
  have h : isStart c = true := h
  rw [nameS, if_pos (by simp [isSign, h])]
  simp
 | c :: d :: r, h =>
  have h : (if c = 45 then decide (d = 45) || isStart d || escS (d :: r) else isStart c || escS (c :: d :: r)) = true := h
  rw [nameS]
  by_cases h1 : c = 92 ∧ d ≠ 10
  ·rw [if_pos h1]; simp only [addN]; omega
  ·have hsg : isSign c = true := by
    by_cases hc : c = 45
    ·simp [isSign, hc]
    ·rw [if_neg hc] at h
     cases hst : isStart c with
     | true => simp [isSign, hst]
     | false =>
      rw [hst] at h
      simp only [escS, Bool.false_or, Bool.and_eq_true, decide_eq_true_eq, Bool.not_eq_true', decide_eq_false_iff_not] at h
      exact absurd h h1
   rw [if_neg h1, if_pos hsg]
   simp only [addN]; omega
theorem firstS_raw {s : List UInt8} (hs : s ≠ []) : 1 ≤ (firstS s).Raw.length ∧ (firstS s).Raw.length ≤ s.length := by
 unfold firstS
 have hdt := dropWhile_take isBlank s
 by_cases hb : s.takeWhile isBlank = []
 ·rw [if_neg (by simp [hb])]
  by_cases hp : s.take 2 = [47, 42]
  ·rw [if_pos hp]
   unfold noteT
   cases noteI (s.drop 2) with
   | some k => exact take_pos hs (by omega)
   | none => exact all_pos hs
  ·rw [if_neg hp]
   match s, hs with
   | c :: r, hs =>
    show 1 ≤ (tokS c r).Raw.length ∧ (tokS c r).Raw.length ≤ _
    unfold tokS
    split
    ·unfold textT
     split
     ·exact take_pos hs (by omega)
     ·split
      ·exact take_pos hs (by omega)
      ·exact all_pos hs
    ·split
     ·exact take_pos hs (by omega)
     ·split
      ·exact take_pos hs (by omega)
      ·split
       ·rename_i hn
        unfold numberS
        split
        ·exact take_pos hs (by omega)
        ·split
         ·exact take_pos hs (by omega)
         ·split
          ·exact take_pos hs (by omega)
          ·exact take_pos hs (by omega)
       ·split
        ·rename_i hbeg
         have := nameS_pos hbeg
         unfold nameT
         simp only
         split
         ·exact take_pos hs (by omega)
         ·exact take_pos hs (by omega)
        ·simp
 ·rw [if_pos hb]
  have := List.length_pos_iff.2 hb
  exact ⟨this, by show (s.takeWhile isBlank).length ≤ _; omega⟩
def cutF : Nat → List UInt8 → List TSToken
 | 0, _ => []
 | N + 1, s => if s = [] then [] else firstS s :: cutF N (s.drop (firstS s).Raw.length)
def cutS (s : List UInt8) : List TSToken := cutF s.length s
theorem cutF_nil (N : Nat) : cutF N [] = [] := by cases N <;> rfl
theorem cutF_more : ∀ (N M : Nat) (s : List UInt8), s.length ≤ N → s.length ≤ M → cutF N s = cutF M s
 | 0, M, s, h1, h2 => by
  rw [show s = [] from List.eq_nil_of_length_eq_zero (by omega), cutF_nil, cutF_nil]
 | N + 1, 0, s, h1, h2 => by
  rw [show s = [] from List.eq_nil_of_length_eq_zero (by omega), cutF_nil, cutF_nil]
 | N + 1, M + 1, s, h1, h2 => by
  rw [cutF, cutF]
  by_cases hs : s = []
  ·rw [if_pos hs, if_pos hs]
  ·have := firstS_raw hs
   rw [if_neg hs, if_neg hs, cutF_more N M _ (by rw [List.length_drop]; omega) (by rw [List.length_drop]; omega)]
theorem cut_l0 : ∀ (N : Nat) (s : List UInt8) (out : List TSToken), s.length < N → s.length < 4294967281 → out.length + s.length < 4294967281 →
  Z15 (fun out => some out) N s out = some (out ++ cutS s)
 | 0, s, out, hN, hl, ho => by omega
 | N + 1, s, out, hN, hl, ho => by
  rw [Z15]
  by_cases hs : s = []
  ·subst hs
   rw [if_neg (by simp)]
   simp [cutS, cutF]
  ·obtain ⟨h1, h2⟩ := firstS_raw hs
   rw [if_pos (by simp [hs]), first_eq hs hl, Option.bind_some, appq (by simp; omega), Option.bind_some, sub_drop h2, Option.bind_some, cut_l0 N _ _ (by rw [List.length_drop]; omega) (by rw [List.length_drop]; omega) (by rw [List.length_append, List.length_drop]; simp; omega)]
   congr 1
   rw [List.append_assoc]
   congr 1
   unfold cutS
   have hlen : s.length = (s.length - 1) + 1 := by omega
   rw [hlen, cutF, if_neg hs, cutF_more (s.length - 1) (s.drop (firstS s).Raw.length).length _ (by rw [List.length_drop]; omega) (Nat.le_refl _)]
   rfl
theorem cut_eq {s : List UInt8} (hl : s.length < 4294967281) : Z38 s = some (cutS s) := by
 unfold Z38
 exact lim_of (s.length + 1) fun k hk => by rw [cut_l0 k s [] (by omega) hl (by simpa using hl)]; rfl
end Go.Proofs.YtaejmblphhjccaaGreatDoorBv
/- The document's numbers at the beginning of a text: the same plain function. No program is in sight. -/
namespace Go.Proofs.YtaejmblphhjccaaGreatDoorBv
open Go
set_option linter.unusedSimpArgs false
set_option linter.unusedVariables false
theorem rdigit_eq (c : UInt8) : Z2 (c.toNat : Int) = isD c := by
 unfold Z2 isD
 congr 1
 ·rw [Bool.eq_iff_iff]; simp; omega
 ·rw [Bool.eq_iff_iff]; simp; omega
theorem rat_eq (s : List UInt8) (i : Nat) : Z6 s (i : Int) = some ((s.getD i 0).toNat : Int) := by
 unfold Z6
 by_cases h : i < s.length
 ·rw [if_pos (by simp only [decide_eq_true_eq]; omega), at_some h, Option.bind_some, List.getD_eq_getElem?_getD, List.getElem?_eq_getElem h]
  rfl
 ·rw [if_neg (by simp only [decide_eq_true_eq]; omega), List.getD_eq_getElem?_getD, List.getElem?_eq_none (by omega)]
  rfl
theorem dig_val {c : UInt8} (h : isD c = true) : wr .i64 (wr .u8 ((c.toNat : Int) - 48)) = ((c.toNat - 48 : Nat) : Int) ∧ c.toNat - 48 ≤ 9 := by
 simp only [isD, Bool.and_eq_true, decide_eq_true_eq] at h
 refine ⟨?_, by omega⟩
 rw [wr_u8, wr_i64, wi_id (by omega) (by omega)]
 omega
theorem mn_nat (a b : Nat) : mn (a : Int) (b : Int) = ((min a b : Nat) : Int) := by
 unfold mn
 split <;> omega
theorem rnum_l0 (s : List UInt8) (i0 : Int) (K : Int → Int → Option (Int × Int)) (hl : s.length ≤ 140737488355328) : ∀ (d i n : Nat), i + d = s.length → n ≤ 1000000000 → ∀ m,
  Zm s i0 K (m + d + 1) (i : Int) (n : Int) = K ((i + ((s.drop i).takeWhile isD).length : Nat) : Int) ((((s.drop i).takeWhile isD).foldl addD n : Nat) : Int)
 | 0, i, n, hi, hn, m => by
  rw [Zm, if_neg (by simp only [decide_eq_true_eq]; omega), List.drop_eq_nil_of_le (by omega)]
  rfl
 | d + 1, i, n, hi, hn, m => by
  have h : i < s.length := by omega
  rw [Zm, if_pos (by simp only [decide_eq_true_eq]; omega), at_some h, Option.bind_some, rdigit_eq, List.drop_eq_getElem_cons h, List.takeWhile_cons]
  unfold Z3k
  cases hc : isD s[i] with
  | false => simp
  | true =>
   obtain ⟨e1, e2⟩ := dig_val hc
   rw [if_pos rfl, if_pos rfl, at_some h, Option.bind_some, e1, wi_id (n := 10 * (n : Int)) (by omega) (by omega), wi_id (n := 10 * (n : Int) + _) (by omega) (by omega), wi_id (by omega) (by omega),
    show (i : Int) + 1 = ((i + 1 : Nat) : Int) by omega, show 10 * (n : Int) + ((s[i].toNat - 48 : Nat) : Int) = ((10 * n + (s[i].toNat - 48) : Nat) : Int) by omega, show (1000000000 : Int) = ((1000000000 : Nat) : Int) from rfl, mn_nat,
    show m + (d + 1) = m + d + 1 by omega]
   rw [rnum_l0 s i0 K hl d (i + 1) _ (by omega) (Nat.min_le_right _ _) m, List.length_cons, List.foldl_cons]
   rw [show i + 1 + ((s.drop (i + 1)).takeWhile isD).length = i + (((s.drop (i + 1)).takeWhile isD).length + 1) by omega]
   rfl
theorem cap_le (x : Nat) : min x 1000000000 ≤ 1000000000 := Nat.min_le_right _ _
theorem thousN_le (n : Nat) (f : List UInt8) : thousN n f ≤ 1000000000 := addD_le _ _
def capA (n d : Nat) : Nat := min (n + d) 1000000000
theorem capA_le (n d : Nat) : capA n d ≤ 1000000000 := Nat.min_le_right _ _
def foldU (n u : Nat) (l : List UInt8) : Nat := match l with
 | [] => n
 | c :: r => foldU (capA n (u * (c.toNat - 48))) (u / 10) r
theorem foldU_nil (n u : Nat) : foldU n u [] = n := by unfold foldU; rfl
theorem foldU_cons (n u : Nat) (c : UInt8) (r : List UInt8) : foldU n u (c :: r) = foldU (capA n (u * (c.toNat - 48))) (u / 10) r := by
 conv => lhs; unfold foldU
theorem foldU_zero (l : List UInt8) (n : Nat) (h : n ≤ 1000000000) : foldU n 0 l = n := by
 induction l with
 | nil => exact foldU_nil n 0
 | cons c r ih =>
  have e : capA n (0 * (c.toNat - 48)) = n := by rw [Nat.zero_mul]; exact Nat.min_eq_left h
  rw [foldU_cons, e]
  exact ih
theorem foldU_thous (n : Nat) (f : List UInt8) (hf : ∀ c ∈ f, isD c = true) : foldU (min (1000 * n) 1000000000) 100 f = thousN n f := by
 have hd : ∀ c, isD c = true → 48 ≤ c.toNat ∧ c.toNat ≤ 57 := fun c h => by
  simp only [isD, Bool.and_eq_true, decide_eq_true_eq] at h
  exact h
 have e48 : (48 : UInt8).toNat = 48 := rfl
 match f, hf with
 | [], _ => simp only [foldU_nil, foldU_cons]; simp [capA, thousN, addD, e48]; try omega
 | [a], hf =>
  have := hd a (hf a (by simp))
  simp only [foldU_nil, foldU_cons]; simp [capA, thousN, addD, e48]; try omega
 | [a, b], hf =>
  have := hd a (hf a (by simp))
  have := hd b (hf b (by simp))
  simp only [foldU_nil, foldU_cons]; simp [capA, thousN, addD, e48]; try omega
 | a :: b :: c :: r, hf =>
  have := hd a (hf a (by simp))
  have := hd b (hf b (by simp))
  have := hd c (hf c (by simp))
  simp only [foldU_cons]
  rw [show 100 / 10 / 10 / 10 = 0 from rfl, foldU_zero r _ (capA_le _ _)]
  simp [capA, thousN, addD]; omega
theorem rnum_l3 (s : List UInt8) (K : Int → Int → Int → Option (Int × Int)) (hl : s.length ≤ 140737488355328) : ∀ (d i n q u : Nat), i + d = s.length → n ≤ 1000000000 → q ≤ i → u ≤ 100 → ∀ m,
  Zn s K (m + d + 1) (i : Int) (n : Int) (q : Int) (u : Int) = K ((i + ((s.drop i).takeWhile isD).length : Nat) : Int) ((foldU n u ((s.drop i).takeWhile isD) : Nat) : Int) ((q + ((s.drop i).takeWhile isD).length : Nat) : Int)
 | 0, i, n, q, u, hi, hn, hq, hu, m => by
  rw [Zn, if_neg (by simp only [decide_eq_true_eq]; omega), List.drop_eq_nil_of_le (by omega)]
  rfl
 | d + 1, i, n, q, u, hi, hn, hq, hu, m => by
  have h : i < s.length := by omega
  rw [Zn, if_pos (by simp only [decide_eq_true_eq]; omega), at_some h, Option.bind_some, rdigit_eq, List.drop_eq_getElem_cons h, List.takeWhile_cons]
  unfold Z3m
  cases hc : isD s[i] with
  | false => simp [foldU_nil]
  | true =>
   obtain ⟨e1, e2⟩ := dig_val hc
   have e3 : u * (s[i].toNat - 48) ≤ 100 * 9 := Nat.mul_le_mul hu e2
   have e4 : (u : Int) * ((s[i].toNat - 48 : Nat) : Int) = ((u * (s[i].toNat - 48) : Nat) : Int) := by rw [Int.natCast_mul]
   rw [if_pos rfl, if_pos rfl, at_some h, Option.bind_some, e1, e4, wi_id (n := ((u * (s[i].toNat - 48) : Nat) : Int)) (by omega) (by omega), wi_id (n := (n : Int) + _) (by omega) (by omega), wi_id (n := (i : Int) + 1) (by omega) (by omega), wi_id (n := (q : Int) + 1) (by omega) (by omega),
    show (i : Int) + 1 = ((i + 1 : Nat) : Int) by omega, show (q : Int) + 1 = ((q + 1 : Nat) : Int) by omega, show (n : Int) + ((u * (s[i].toNat - 48) : Nat) : Int) = ((n + u * (s[i].toNat - 48) : Nat) : Int) by omega, show (1000000000 : Int) = ((1000000000 : Nat) : Int) from rfl, mn_nat,
    show m + (d + 1) = m + d + 1 by omega, show (u : Int).tdiv 10 = ((u / 10 : Nat) : Int) from rfl, wi_id (n := ((u / 10 : Nat) : Int)) (by omega) (by omega)]
   rw [show min (n + u * (s[i].toNat - 48)) 1000000000 = capA n (u * (s[i].toNat - 48)) from rfl, rnum_l3 s K hl d (i + 1) (capA n (u * (s[i].toNat - 48))) (q + 1) (u / 10) (by omega) (capA_le _ _) (by omega) (by omega) m, List.length_cons]
   rw [show i + 1 + ((s.drop (i + 1)).takeWhile isD).length = i + (((s.drop (i + 1)).takeWhile isD).length + 1) by omega, show q + 1 + ((s.drop (i + 1)).takeWhile isD).length = q + (((s.drop (i + 1)).takeWhile isD).length + 1) by omega, foldU_cons]
theorem rnum_end {s : List UInt8} {i : Int} {n q : Nat} (hn : n ≤ 1000000000) (hq : q ≠ 0 → s ≠ []) :
  Z2o s i (n : Int) (q : Int) = some (if q = 0 then (0, 0) else (if s.head? = some 45 then -(n : Int) else (n : Int), i)) := by
 unfold Z2o Z3l
 by_cases h0 : q = 0
 ·rw [if_pos (by simp only [decide_eq_true_eq]; omega), if_pos h0]
 ·rw [if_neg (by simp only [decide_eq_true_eq]; omega), if_neg h0]
  match s, hq h0 with
  | c :: r, _ =>
   have h0 : at? (c :: r) 0 = some c := rfl
   rw [h0, Option.bind_some]
   by_cases hc : c = 45
   ·subst hc
    rw [if_pos (show decide (((45 : UInt8).toNat : Int) = 45) = true by decide), if_pos (show (45 :: r).head? = some 45 from rfl), wi_id (by omega) (by omega)]
    congr 2
    omega
   ·rw [if_neg (by simp only [decide_eq_true_eq]; intro e; exact hc (UInt8.toNat_inj.1 (by simpa using (by omega : c.toNat = 45)))), if_neg (by simpa using hc)]
theorem NumberAt_eq {s : List UInt8} (hs : s.length ≤ 140737488355328) : Z3o s = some (numS s) := by
 have main : ∀ a : Nat, a = fromN s → a ≤ s.length → Z2q s (a : Int) = some (numS s) := by
  intro a hfrom ha
  unfold Z2q
  refine lim_add (s.length - a + 1) fun m => ?_
  rw [← Nat.add_assoc]
  refine (rnum_l0 s _ _ hs (s.length - a) a 0 (by omega) (by omega) m).trans ?_
  obtain ⟨w, hw⟩ : ∃ w, w = (s.drop a).takeWhile isD := ⟨_, rfl⟩
  obtain ⟨f, hf⟩ : ∃ f, f = fracN ((s.drop a).drop w.length) := ⟨_, rfl⟩
  have hwl : w.length ≤ s.length - a := by
   have := dropWhile_take isD (s.drop a)
   rw [← hw, List.length_drop] at this
   omega
  rw [← hw, rat_eq, Option.bind_some]
  have hfd := foldD_le w 0 (by omega)
  generalize hn : w.foldl addD 0 = n at hfd
  have e0 : (s.drop a).drop w.length = s.drop (a + w.length) := by rw [List.drop_drop]
  have hspec : numS s = if w.length + f.length = 0 then (0, 0) else (if s.head? = some 45 then -((thousN n f : Nat) : Int) else ((thousN n f : Nat) : Int), ((a + w.length + if f.length = 0 then 0 else 1 + f.length : Nat) : Int)) := by
   unfold numS
   rw [← hfrom, ← hw]
   simp only [← hf, hn]
  have hne : ∀ q, q ≠ 0 → q = w.length + f.length → s ≠ [] := by
   rintro q h0 hq rfl
   have h1 : w.length = 0 := by simpa using hwl
   have h2 : f = [] := by rw [hf]; simp [fracN]
   rw [h2] at hq
   simp at hq
   omega
  have j17 : ∀ v : Bool, (v = true → ∃ r, s.drop (a + w.length) = 46 :: r ∧ f = r.takeWhile isD ∧ f ≠ []) → (v = false → f = []) → Z2p s ((a + w.length : Nat) : Int) (n : Int) (a : Int) v = some (numS s) := by
   intro v h1 h2
   have hm : mn (wi (1000 * (n : Int))) 1000000000 = ((min (1000 * n) 1000000000 : Nat) : Int) := by
    rw [wi_id (by omega) (by omega), show 1000 * (n : Int) = ((1000 * n : Nat) : Int) by omega]
    exact mn_nat _ _
   unfold Z2p
   rw [hm, wi_id (n := ((a + w.length : Nat) : Int) - a) (by omega) (by omega), show ((a + w.length : Nat) : Int) - a = ((w.length : Nat) : Int) by omega, wi_id (n := ((a + w.length : Nat) : Int) + 1) (by omega) (by omega)]
   cases v with
   | true =>
    obtain ⟨r, hr, hfr, hf0⟩ := h1 rfl
    have hlr := congrArg List.length hr
    simp only [List.length_drop, List.length_cons] at hlr
    have hr1 : s.drop (a + w.length + 1) = r := by
     rw [← List.drop_drop, hr]; rfl
    rw [if_pos rfl]
    refine lim_add (s.length - (a + w.length + 1) + 1) fun m => ?_
    rw [← Nat.add_assoc, show ((a + w.length : Nat) : Int) + 1 = ((a + w.length + 1 : Nat) : Int) by omega]
    refine (rnum_l3 s _ hs (s.length - (a + w.length + 1)) (a + w.length + 1) _ w.length 100 (by omega) (Nat.min_le_right _ _) (by omega) (by omega) m).trans ?_
    have hfl : f.length ≠ 0 := fun h => hf0 (List.eq_nil_of_length_eq_zero h)
    rw [hr1, ← hfr, foldU_thous n f (by rw [hfr]; exact fold_take r), rnum_end (thousN_le n f) (fun h => hne _ h rfl), hspec]
    congr 1
    rw [if_neg hfl]
    congr 2
    omega
   | false =>
    have hf0 := h2 rfl
    rw [if_neg (by simp), rnum_end (Nat.min_le_right _ _) (fun h => hne _ h (by rw [hf0]; rfl)), hspec, hf0]
    have : min (1000 * n) 1000000000 = thousN n [] := (foldU_thous n [] (fun c hc => by cases hc))
    rw [this]
    rfl
  show (if _ then _ else _) = _
  have hget : ∀ {c r}, s.drop (a + w.length) = c :: r → s[a + w.length]? = some c := by
   intro c r h
   have : (s.drop (a + w.length))[0]? = some c := by rw [h]; rfl
   simpa using this
  cases hd : s.drop (a + w.length) with
  | nil =>
   have hlen : s.length ≤ a + w.length := by simpa using hd
   have e46 : ¬ (decide (((s.getD (a + w.length) 0).toNat : Int) = 46) = true) := by
    rw [List.getD_eq_getElem?_getD, List.getElem?_eq_none hlen]; decide
   rw [if_neg (by simp only [Bool.and_eq_true]; exact fun h => e46 h.1)]
   exact j17 false (fun h => by cases h) (fun _ => by rw [hf, e0, hd]; rfl)
  | cons c r =>
   have hc0 : s.getD (a + w.length) 0 = c := by rw [List.getD_eq_getElem?_getD, hget hd]; rfl
   have hlr := congrArg List.length hd
   simp only [List.length_drop, List.length_cons] at hlr
   rw [hc0, wi_id (n := ((a + w.length : Nat) : Int) + 1) (by omega) (by omega), show ((a + w.length : Nat) : Int) + 1 = ((a + w.length + 1 : Nat) : Int) by omega]
   have hff : f = if c = 46 then r.takeWhile isD else [] := by rw [hf, e0, hd]; rfl
   by_cases hc : c = 46
   ·subst hc
    rw [if_pos rfl] at hff
    cases r with
    | nil =>
     simp only [List.length_nil] at hlr
     rw [if_neg (by simp only [Bool.and_eq_true, decide_eq_true_eq]; omega)]
     exact j17 false (fun h => by cases h) (fun _ => hff)
    | cons x r2 =>
     simp only [List.length_cons] at hlr
     rw [if_pos (by simp only [Bool.and_eq_true, decide_eq_true_eq]; exact ⟨rfl, by omega⟩)]
     have hx : s[a + w.length + 1]? = some x := by
      have : (s.drop (a + w.length))[1]? = some x := by rw [hd]; rfl
      simpa using this
     rw [at_nat, hx, Option.bind_some, rdigit_eq]
     refine j17 _ (fun h => ⟨_, hd, hff, ?_⟩) (fun h => ?_)
     ·rw [hff, List.takeWhile_cons, if_pos h]; simp
     ·rw [hff, List.takeWhile_cons, h]; rfl
   ·rw [if_neg hc] at hff
    rw [if_neg (by
     simp only [Bool.and_eq_true, decide_eq_true_eq]
     intro h
     exact hc (UInt8.toNat_inj.1 (by simpa using (by omega : c.toNat = 46))))]
    exact j17 false (fun h => by cases h) (fun _ => hff)
 unfold Z3o Z3n
 have r0 := rat_eq s 0
 rw [show ((0 : Nat) : Int) = 0 from rfl] at r0
 rw [r0, Option.bind_some, Option.bind_some]
 cases s with
 | nil =>
  rw [if_neg (by decide), if_neg (by decide)]
  exact main 0 rfl (by simp)
 | cons c r =>
  have hg : (c :: r).getD 0 0 = c := rfl
  rw [hg]
  by_cases c1 : c = 43
  ·subst c1
   rw [if_pos (by decide), if_pos rfl]
   exact main 1 (by simp [fromN]) (by simp)
  ·have n1 : ¬ (decide ((c.toNat : Int) = 43) = true) := by
    simp only [decide_eq_true_eq]; intro e; exact c1 (UInt8.toNat_inj.1 (by simpa using (by omega : c.toNat = 43)))
   rw [if_neg n1]
   by_cases c2 : c = 45
   ·subst c2
    rw [if_pos (by decide)]
    exact main 1 (by simp [fromN]) (by simp)
   ·have n2 : ¬ (decide ((c.toNat : Int) = 45) = true) := by
     simp only [decide_eq_true_eq]; intro e; exact c2 (UInt8.toNat_inj.1 (by simpa using (by omega : c.toNat = 45)))
    rw [if_neg n2]
    exact main 0 (by simp [fromN, c1, c2]) (by simp)
end Go.Proofs.YtaejmblphhjccaaGreatDoorBv
/- A text's tokens, as the document cuts them: the same plain functions. No program is in sight. -/
namespace Go.Proofs.YtaejmblphhjccaaGreatDoorBv
open Go
set_option linter.unusedSimpArgs false
set_option linter.unusedVariables false
theorem rletter_eq (c : UInt8) : Z7 (c.toNat : Int) = isStart c := by
 have := u8_all (p := fun c => Z7 (c.toNat : Int) == isStart c) (by decide +kernel) c
 simpa using this
theorem rnamed_eq (c : UInt8) : Z1i (c.toNat : Int) = isSign c := by
 unfold Z1i isSign
 rw [rletter_eq, rdigit_eq]
 congr 1
 exact byte_is c 45 (by omega)
theorem rblank_eq (c : UInt8) : Z1g (c.toNat : Int) = isBlank c := by
 have := u8_all (p := fun c => Z1g (c.toNat : Int) == isBlank c) (by decide +kernel) c
 simpa using this
theorem drop_get {s : List UInt8} {i k : Nat} : (s.drop i)[k]? = s[i + k]? := by rw [List.getElem?_drop]
theorem rescape_eq (s : List UInt8) (i : Nat) (hi : i ≤ 9223372036854775806) : Z19 s (i : Int) = some (escS (s.drop i)) := by
 unfold Z19 Z3p
 rw [rat_eq, Option.bind_some, wi_id (by omega) (by omega), show (i : Int) + 1 = ((i + 1 : Nat) : Int) by omega]
 by_cases h : i < s.length
 ·have e1 := List.drop_eq_getElem_cons h
  have g : s.getD i 0 = s[i] := by rw [List.getD_eq_getElem?_getD, List.getElem?_eq_getElem h]; rfl
  rw [g, show decide ((s[i].toNat : Int) = 92) = decide (s[i] = 92) from byte_is _ 92 (by omega), e1]
  by_cases h2 : i + 1 < s.length
  ·have e2 := List.drop_eq_getElem_cons h2
   rw [at_some h2, Option.bind_some, e2, show decide ((s[i + 1].toNat : Int) = 10) = decide (s[i + 1] = 10) from byte_is _ 10 (by omega)]
   unfold escS
   by_cases hc : s[i] = 92
   ·rw [if_pos (by simp [hc]; omega)]; simp [hc]
   ·rw [if_neg (by simp [hc])]; simp [hc]
  ·have e2 : s.drop (i + 1) = [] := List.drop_eq_nil_of_le (by omega)
   rw [if_neg (by simp; intros; omega), e2]
   rfl
 ·have g : s.getD i 0 = 0 := by rw [List.getD_eq_getElem?_getD, List.getElem?_eq_none (by omega)]; rfl
  rw [g, if_neg (by simp), List.drop_eq_nil_of_le (by omega)]
  rfl
theorem rbegins_eq (s : List UInt8) (i : Nat) (hi : i ≤ 9223372036854775805) : Z1u s (i : Int) = some (beginsS (s.drop i)) := by
 unfold Z1u Z1t Z2r
 rw [rat_eq, Option.bind_some, wi_id (by omega) (by omega), show (i : Int) + 1 = ((i + 1 : Nat) : Int) by omega, rescape_eq s i (by omega), rescape_eq s (i + 1) (by omega), Option.bind_some, Option.bind_some]
 by_cases h : i < s.length
 ·have e1 := List.drop_eq_getElem_cons h
  have g : s.getD i 0 = s[i] := by rw [List.getD_eq_getElem?_getD, List.getElem?_eq_getElem h]; rfl
  rw [g, show decide ((s[i].toNat : Int) = 45) = decide (s[i] = 45) from byte_is _ 45 (by omega), e1, at_some h, Option.bind_some, rletter_eq]
  by_cases h2 : i + 1 < s.length
  ·have e2 := List.drop_eq_getElem_cons h2
   rw [at_some h2, Option.bind_some, Option.bind_some, rletter_eq, e2, show decide ((s[i + 1].toNat : Int) = 45) = decide (s[i + 1] = 45) from byte_is _ 45 (by omega)]
   rw [show beginsS (s[i] :: s[i + 1] :: s.drop (i + 1 + 1)) = if s[i] = 45 then decide (s[i + 1] = 45) || isStart s[i + 1] || escS (s[i + 1] :: s.drop (i + 1 + 1)) else isStart s[i] || escS (s[i] :: s[i + 1] :: s.drop (i + 1 + 1)) from rfl]
   by_cases hc : s[i] = 45
   ·rw [if_pos (by simpa using hc), if_pos (by simp only [decide_eq_true_eq]; omega), if_pos hc]
    by_cases hd : s[i + 1] = 45
    ·rw [if_pos (by simpa using hd)]; simp [hd]
    ·rw [if_neg (by simpa using hd)]
     cases isStart s[i + 1] <;> simp [hd]
   ·rw [if_neg (by simpa using hc), if_pos (by simp only [decide_eq_true_eq]; omega), if_neg hc]
    cases isStart s[i] <;> simp
  ·have e2 : s.drop (i + 1) = [] := List.drop_eq_nil_of_le (by omega)
   rw [e2]
   show _ = some (isStart s[i])
   by_cases hc : s[i] = 45
   ·rw [if_pos (by simpa using hc), if_neg (by simp only [decide_eq_true_eq]; omega)]
    rw [hc]; rfl
   ·rw [if_neg (by simpa using hc), if_pos (by simp only [decide_eq_true_eq]; omega)]
    cases isStart s[i] <;> rfl
 ·have g : s.getD i 0 = 0 := by rw [List.getD_eq_getElem?_getD, List.getElem?_eq_none (by omega)]; rfl
  rw [g, if_neg (by simp), if_neg (by simp only [decide_eq_true_eq]; omega), List.drop_eq_nil_of_le (by omega)]
  rfl
theorem sub_one {s : List UInt8} {i : Nat} (h : i < s.length) : sub? s (i : Int) ((i + 1 : Nat) : Int) = some [s[i]] := by
 rw [sub_nat (by omega) (by omega), List.drop_take, show i + 1 - i = 1 by omega, List.drop_eq_getElem_cons h]
 rfl
theorem said_l0 (s : List UInt8) (hl : s.length < 140737488355328) : ∀ (N i : Nat) (b : List UInt8), s.length - i < N → i ≤ s.length → b.length ≤ i →
  Zo s (fun i b => some (b, i)) N (i : Int) b = some (b ++ (nameS (s.drop i)).1, ((i + (nameS (s.drop i)).2 : Nat) : Int))
 | 0, i, b, hN, hi, hb => by omega
 | N + 1, i, b, hN, hi, hb => by
  rw [Zo]
  unfold Z2s Z3r
  by_cases h : i < s.length
  ·have e1 := List.drop_eq_getElem_cons h
   rw [if_pos (by simp only [decide_eq_true_eq]; omega), at_some h, Option.bind_some, rnamed_eq, rescape_eq s i (by omega), Option.bind_some, Option.bind_some, wi_id (n := (i : Int) + 1) (by omega) (by omega), show (i : Int) + 1 = ((i + 1 : Nat) : Int) by omega, wi_id (n := ((i + 1 : Nat) : Int) + 1) (by omega) (by omega),
    show ((i + 1 : Nat) : Int) + 1 = ((i + 1 + 1 : Nat) : Int) by omega, sub_one h, Option.bind_some, catq (by simp; omega), Option.bind_some, show decide ((s[i].toNat : Int) = 92) = decide (s[i] = 92) from byte_is _ 92 (by omega), e1,
    said_l0 s hl N (i + 1) (b ++ [s[i]]) (by omega) (by omega) (by simp; omega)]
   by_cases h2 : i + 1 < s.length
   ·have e2 := List.drop_eq_getElem_cons h2
    rw [e2, sub_one h2, Option.bind_some, catq (by simp; omega), Option.bind_some, said_l0 s hl N (i + 1 + 1) (b ++ [s[i + 1]]) (by omega) (by omega) (by simp; omega)]
    rw [show nameS (s[i] :: s[i + 1] :: s.drop (i + 1 + 1)) = if s[i] = 92 ∧ s[i + 1] ≠ 10 then addN [s[i + 1]] 2 (nameS (s.drop (i + 1 + 1))) else if isSign s[i] then addN [s[i]] 1 (nameS (s[i + 1] :: s.drop (i + 1 + 1))) else ([], 0) by rw [nameS]]
    have n92 : ∀ c : UInt8, c = 92 → isSign c = false := by rintro c rfl; decide
    by_cases hc : s[i] = 92
    ·rw [n92 _ hc]
     unfold escS
     by_cases hd : s[i + 1] = 10
     ·simp [hc, hd]
     ·simp [hc, hd, addN]; omega
    ·have : escS (s[i] :: s[i + 1] :: s.drop (i + 1 + 1)) = false := by simp [escS, hc]
     rw [this]
     cases isSign s[i] with
     | true => simp [hc, addN]; omega
     | false => simp [hc]
   ·have e2 : s.drop (i + 1) = [] := List.drop_eq_nil_of_le (by omega)
    rw [e2, show nameS [] = ([], 0) by rw [nameS], show nameS [s[i]] = if isSign s[i] then ([s[i]], 1) else ([], 0) by rw [nameS], show escS [s[i]] = false from rfl]
    have n92 : ∀ c : UInt8, isSign c = true → c ≠ 92 := by rintro c h rfl; revert h; decide
    cases hs : isSign s[i] with
    | true => simp [n92 _ hs]
    | false => simp
  ·rw [if_neg (by simp only [decide_eq_true_eq]; omega), if_neg (by simp), List.drop_eq_nil_of_le (by omega), show nameS [] = ([], 0) by rw [nameS]]
   simp
theorem said_eq {s : List UInt8} {i : Nat} (hl : s.length < 140737488355328) (hi : i ≤ s.length) : Z1a s (i : Int) = some ((nameS (s.drop i)).1, ((i + (nameS (s.drop i)).2 : Nat) : Int)) := by
 unfold Z1a
 refine lim_of (s.length + 1) fun k hk => ?_
 have := said_l0 s hl k i [] (by omega) hi (by simp)
 simpa using this
theorem rlower_l0 (s : List UInt8) (hl : s.length < 140737488355328) : ∀ (N i : Nat), s.length - i < N → i ≤ s.length →
  Z10 (fun b => some (byts b)) N (ints ((s.take i).map lowB ++ s.drop i)) (i : Int) = some (s.map lowB)
 | 0, i, hN, hi => by omega
 | N + 1, i, hN, hi => by
  rw [Z10]
  have hlen : ((s.take i).map lowB).length = i := by simp; omega
  have hall : (ints ((s.take i).map lowB ++ s.drop i)).length = s.length := by rw [ints_length, List.length_append, hlen, List.length_drop]; omega
  by_cases h : i < s.length
  ·have hg : ((s.take i).map lowB ++ s.drop i)[i]? = some s[i] := by
    rw [List.getElem?_append_right (by omega), hlen]
    simp [h]
   have ih := rlower_l0 s hl N (i + 1) (by omega) (by omega)
   have eset : ((s.take i).map lowB ++ s.drop i).set i (lowB s[i]) = (s.take (i + 1)).map lowB ++ s.drop (i + 1) := by
    rw [List.set_append_right _ _ (by omega), hlen, List.drop_eq_getElem_cons h, Nat.sub_self, List.set_cons_zero, List.take_add_one, List.getElem?_eq_getElem h]
    simp only [Option.toList_some, List.map_append, List.map_cons, List.map_nil, List.append_assoc, List.cons_append, List.nil_append]
   have hint : ∀ c : UInt8, (ints ((s.take i).map lowB ++ s.drop i)).set i (c.toNat : Int) = ints (((s.take i).map lowB ++ s.drop i).set i c) := by
    intro c
    unfold ints
    rw [List.map_set]
   have ha : at? (ints ((s.take i).map lowB ++ s.drop i)) (i : Int) = some (s[i].toNat : Int) := by rw [at_nat, ints_get, hg]; rfl
   rw [if_pos (by simp only [decide_eq_true_eq]; omega), ha, Option.bind_some, Option.bind_some]
   unfold Z3t Z3s
   rw [ha, Option.bind_some, Option.bind_some, wi_id (by omega) (by omega), show (i : Int) + 1 = ((i + 1 : Nat) : Int) by omega]
   by_cases hc : 65 ≤ s[i].toNat ∧ s[i].toNat ≤ 90
   ·have e : lowB s[i] = s[i] + 32 := by unfold lowB; rw [if_pos hc]
    have e2 : wr .u8 ((s[i].toNat : Int) + 32) = ((lowB s[i]).toNat : Int) := by
     rw [e, wr_u8, UInt8.toNat_add]
     have : (32 : UInt8).toNat = 32 := rfl
     omega
    rw [if_pos (by simp; omega), if_pos (by simp; omega), e2, show ((i : Int)).toNat = i from rfl, hint, eset]
    exact ih
   ·have e : lowB s[i] = s[i] := by unfold lowB; rw [if_neg hc]
    have eq : (s.take i).map lowB ++ s.drop i = (s.take (i + 1)).map lowB ++ s.drop (i + 1) := by
     rw [← eset, e]
     exact (set_self hg).symm
    rw [eq]
    by_cases c1 : 65 ≤ s[i].toNat
    ·rw [if_pos (by simp; omega), if_neg (by simp; omega)]; exact ih
    ·rw [if_neg (by simp; omega), if_neg (by simp)]; exact ih
  ·have : i = s.length := by omega
   subst this
   rw [if_neg (by rw [hall]; simp)]
   simp [byts_ints]
theorem rlower_eq {s : List UInt8} (hl : s.length < 140737488355328) : Z3u s = some (s.map lowB) := by
 unfold Z3u
 refine lim_of (s.length + 1) fun k hk => ?_
 have := rlower_l0 s hl k 0 (by omega) (by omega)
 simpa using this
theorem numAt_eq {s : List UInt8} {num : Int} {n : Nat} (hl : s.length < 140737488355328) (hn : n ≤ s.length) : Z3v s num (n : Int) = some (numberS s num n) := by
 unfold Z3v Z2t numberS
 rw [sub_take hn, Option.bind_some, rat_eq, Option.bind_some, rbegins_eq s n (by omega), Option.bind_some, said_eq hl hn, Option.bind_some]
 have gd : ∀ c r, s.drop n = c :: r → s.getD n 0 = c := by
  intro c r h
  have : (s.drop n)[0]? = some c := by rw [h]; rfl
  rw [drop_get, Nat.add_zero] at this
  rw [List.getD_eq_getElem?_getD, this]; rfl
 cases hd : s.drop n with
 | nil =>
  have : s.length ≤ n := by simpa using hd
  have g : s.getD n 0 = 0 := by rw [List.getD_eq_getElem?_getD, List.getElem?_eq_none this]; rfl
  rw [g, if_neg (by decide), if_neg (by simp [beginsS])]
 | cons c r =>
  have hlr := congrArg List.length hd
  simp only [List.length_drop, List.length_cons] at hlr
  rw [gd c r hd, show decide ((c.toNat : Int) = 37) = decide (c = 37) from byte_is _ 37 (by omega)]
  by_cases hc : c = 37
  ·rw [if_pos (by simpa using hc), wi_id (by omega) (by omega), show (n : Int) + 1 = ((n + 1 : Nat) : Int) by omega, sub_take (by omega), Option.bind_some]
   simp only [if_pos hc]
  ·rw [if_neg (by simpa using hc)]
   simp only [if_neg hc]
   cases hb : beginsS (c :: r) with
   | false => rfl
   | true =>
    have h1 := nameS_le _ (c :: r) rfl
    have h2 := nameS_len _ (c :: r) rfl
    simp only [List.length_cons] at h1 h2
    rw [if_pos rfl, if_pos rfl, sub_take (by omega), Option.bind_some, rlower_eq (s := (nameS (c :: r)).1) (by omega), Option.bind_some]
theorem note_l0 (s : List UInt8) (hl : s.length < 140737488355328) : ∀ (N i : Nat), s.length - i < N → i ≤ s.length →
  Zz s (fun _ => some (⟨9, s, [], 0⟩ : TSToken)) N (i : Int) = some ⟨9, match noteI (s.drop i) with | some k => s.take (i + k + 2) | none => s, [], 0⟩
 | 0, i, hN, hi => by omega
 | N + 1, i, hN, hi => by
  rw [Zz, wi_id (by omega) (by omega), show (i : Int) + 1 = ((i + 1 : Nat) : Int) by omega]
  unfold Z3g
  by_cases h2 : i + 1 < s.length
  ·have h : i < s.length := by omega
   have e1 := List.drop_eq_getElem_cons h
   have e2 := List.drop_eq_getElem_cons h2
   have ih := note_l0 s hl N (i + 1) (by omega) (by omega)
   rw [e2] at ih
   rw [if_pos (by simp only [decide_eq_true_eq]; omega), at_some h, Option.bind_some, at_some h2, Option.bind_some, show decide ((s[i].toNat : Int) = 42) = decide (s[i] = 42) from byte_is _ 42 (by omega), show decide ((s[i + 1].toNat : Int) = 47) = decide (s[i + 1] = 47) from byte_is _ 47 (by omega),
    wi_id (by omega) (by omega), show (i : Int) + 1 = ((i + 1 : Nat) : Int) by omega, wi_id (by omega) (by omega), show (i : Int) + 2 = ((i + 2 : Nat) : Int) by omega, sub_take (by omega), Option.bind_some, ih, e1, e2]
   rw [show noteI (s[i] :: s[i + 1] :: s.drop (i + 1 + 1)) = if s[i] = 42 ∧ s[i + 1] = 47 then some 0 else (noteI (s[i + 1] :: s.drop (i + 1 + 1))).map (· + 1) from rfl]
   by_cases hc : s[i] = 42 ∧ s[i + 1] = 47
   ·rw [if_pos (by simpa using hc.1), if_pos (by simpa using hc.2)]
    simp only [if_pos hc]
   ·have fin : ∀ o : Option Nat, (some (⟨9, match o with | some k => s.take (i + 1 + k + 2) | none => s, [], 0⟩ : TSToken)) = some ⟨9, match o.map (· + 1) with | some k => s.take (i + k + 2) | none => s, [], 0⟩ := by
     intro o
     cases o with
     | none => rfl
     | some k => simp only [Option.map_some]; rw [show i + 1 + k + 2 = i + (k + 1) + 2 by omega]
    simp only [if_neg hc]
    by_cases c1 : s[i] = 42
    ·rw [if_pos (by simpa using c1), if_neg (by simp; exact fun h => hc ⟨c1, h⟩)]
     exact fin _
    ·rw [if_neg (by simpa using c1), if_neg (by simp)]
     exact fin _
  ·rw [if_neg (by simp only [decide_eq_true_eq]; omega)]
   have : noteI (s.drop i) = none := by
    match hd : s.drop i with
    | [] => rfl
    | [_] => rfl
    | a :: b :: r =>
     have := congrArg List.length hd
     simp at this
     omega
   rw [this]
theorem noteAt_eq {s : List UInt8} (hl : s.length < 140737488355328) (h2 : 2 ≤ s.length) : Z3h s = some (noteT s) := by
 unfold Z3h noteT
 refine lim_of (s.length + 1) fun k hk => ?_
 rw [show (2 : Int) = ((2 : Nat) : Int) from rfl, note_l0 s hl k 2 (by omega) h2]
 cases noteI (s.drop 2) with
 | none => rfl
 | some k => simp only []; rw [show 2 + k + 2 = k + 4 by omega]
end Go.Proofs.YtaejmblphhjccaaGreatDoorBv
/- All tokens of a text, as the document cuts them: the same. No program is in sight. -/
namespace Go.Proofs.YtaejmblphhjccaaGreatDoorBv
open Go
set_option linter.unusedSimpArgs false
set_option linter.unusedVariables false
/-- what is behind the text between quotes -/
noncomputable abbrev rtextK (s : List UInt8) (value1 : List UInt8) (i_1 : Int) : Option TSToken :=
   if decide (i_1 < (s.length : Int)) then
    (at? s i_1).bind fun c_4 =>
    (at? s 0).bind fun c_5 =>
    Z1h s i_1 value1 (decide ((c_4.toNat : Int) = (c_5.toNat : Int)))
   else
    Z1h s i_1 value1 false
theorem eqb (c q : UInt8) : decide ((c.toNat : Int) = (q.toNat : Int)) = decide (c = q) := by
 have := byte_is c q.toNat q.toNat_lt
 rwa [UInt8.ofNat_toNat] at this
theorem rtext_l0 (s : List UInt8) (q : UInt8) (hq : s[0]? = some q) (hq10 : q ≠ 10) (hl : s.length < 140737488355328) : ∀ (N i : Nat) (b : List UInt8), s.length - i < N → i ≤ s.length → b.length ≤ i →
  Zl s (rtextK s) N b (i : Int) = some (textT s b i (textS q (s.drop i)))
 | 0, i, b, hN, hi, hb => by omega
 | N + 1, i, b, hN, hi, hb => by
  rw [Zl]
  have a0 : at? s 0 = some q := by
   have := at_nat s 0
   rw [hq] at this
   exact this
  unfold Z2n Z3i
  by_cases h : i < s.length
  ·have e1 := List.drop_eq_getElem_cons h
   have hK : ∀ v : List UInt8, rtextK s v (i : Int) = if s[i] = q then some ⟨5, s.take (i + 1), v, 0⟩ else some ⟨6, s.take i, [], 0⟩ := by
    intro v
    unfold rtextK Z1h
    rw [if_pos (by simp only [decide_eq_true_eq]; omega), at_some h, Option.bind_some, a0, Option.bind_some, eqb, wi_id (by omega) (by omega), show (i : Int) + 1 = ((i + 1 : Nat) : Int) by omega, sub_take (by omega), Option.bind_some, sub_take hi, Option.bind_some]
    by_cases c1 : s[i] = q
    ·rw [if_pos (by simpa using c1), if_pos c1]
    ·rw [if_neg (by simpa using c1), if_neg c1]
   rw [if_pos (by simp only [decide_eq_true_eq]; omega), at_some h, a0]
   simp only [Option.bind_some]
   rw [eqb, show decide ((s[i].toNat : Int) = 10) = decide (s[i] = 10) from byte_is _ 10 (by omega), show decide ((s[i].toNat : Int) = 92) = decide (s[i] = 92) from byte_is _ 92 (by omega),
    wi_id (n := (i : Int) + 1) (by omega) (by omega), show (i : Int) + 1 = ((i + 1 : Nat) : Int) by omega, wi_id (n := ((i + 1 : Nat) : Int) + 1) (by omega) (by omega), show ((i + 1 : Nat) : Int) + 1 = ((i + 1 + 1 : Nat) : Int) by omega, sub_one h, Option.bind_some, catq (by simp; omega), Option.bind_some, hK,
    rtext_l0 s q hq hq10 hl N (i + 1) (b ++ [s[i]]) (by omega) (by omega) (by simp; omega), e1]
   by_cases h2 : i + 1 < s.length
   ·have e2 := List.drop_eq_getElem_cons h2
    rw [e2, textS, sub_one h2, Option.bind_some, catq (by simp; omega), Option.bind_some, rtext_l0 s q hq hq10 hl N (i + 1 + 1) (b ++ [s[i + 1]]) (by omega) (by omega) (by simp; omega)]
    by_cases c2 : s[i] = 10
    ·have c1 : ¬ s[i] = q := fun h => hq10 (by rw [← h, c2])
     rw [if_neg (by simp [c2]), if_neg (by simp), if_neg c1, if_neg c1, if_pos c2]
     simp [textT]
    ·rw [if_pos (by simp [c2])]
     by_cases c1 : s[i] = q
     ·rw [if_neg (by simp [c1]), if_pos c1, if_pos c1]; simp [textT]
     ·rw [if_pos (by simp [c1]), if_neg c1, if_neg c2]
      by_cases c3 : s[i] = 92
      ·rw [if_pos (by simp [c3]; omega), if_pos c3]
       simp only [textT, List.append_assoc, List.cons_append, List.nil_append]
       generalize textS q (s.drop (i + 1 + 1)) = x
       rw [show i + 1 + 1 + x.2.1 + 1 = i + (x.2.1 + 2) + 1 by omega, show i + 1 + 1 + x.2.1 = i + (x.2.1 + 2) by omega]
      ·rw [if_neg (by simp [c3]), if_neg c3]
       simp only [textT, List.append_assoc, List.cons_append, List.nil_append]
       generalize textS q (s[i + 1] :: s.drop (i + 1 + 1)) = x
       rw [show i + 1 + x.2.1 + 1 = i + (x.2.1 + 1) + 1 by omega, show i + 1 + x.2.1 = i + (x.2.1 + 1) by omega]
   ·have e2 : s.drop (i + 1) = [] := List.drop_eq_nil_of_le (by omega)
    rw [e2, show textS q [] = ([], 0, 2) by rw [textS], show textS q [s[i]] = if s[i] = q then ([], 0, 0) else if s[i] = 10 then ([], 0, 1) else ([s[i]], 1, 2) by rw [textS]]
    by_cases c2 : s[i] = 10
    ·have c1 : ¬ s[i] = q := fun h => hq10 (by rw [← h, c2])
     rw [if_neg (by simp [c2]), if_neg (by simp), if_neg c1, if_neg c1, if_pos c2]
     simp [textT]
    ·rw [if_pos (by simp [c2])]
     by_cases c1 : s[i] = q
     ·rw [if_neg (by simp [c1]), if_pos c1, if_pos c1]; simp [textT]
     ·rw [if_pos (by simp [c1]), if_neg c1, if_neg c2, if_neg (by simp; intros; omega)]
      simp [textT]
  ·rw [if_neg (by simp only [decide_eq_true_eq]; omega), if_neg (by simp), List.drop_eq_nil_of_le (by omega), show textS q [] = ([], 0, 2) by rw [textS]]
   have : i = s.length := by omega
   subst this
   unfold rtextK Z1h
   rw [if_neg (by simp), if_neg (by simp), sub_take (Nat.le_refl _), Option.bind_some, List.take_length]
   simp [textT]
theorem textAt_eq {s : List UInt8} {q : UInt8} (hq : s[0]? = some q) (hq10 : q ≠ 10) (hl : s.length < 140737488355328) : Z3j s = some (textT s [] 1 (textS q (s.drop 1))) := by
 have hne : 1 ≤ s.length := by
  cases s with
  | nil => cases hq
  | cons => simp
 unfold Z3j
 exact lim_of (s.length + 1) fun k hk => rtext_l0 s q hq hq10 hl k 1 [] (by omega) hne (by simp)
theorem rblank_l0 (s : List UInt8) (hl : s.length < 140737488355328) (K : Int → Option TSToken) : ∀ (N i : Nat), s.length - i < N → i ≤ s.length →
  Z11 s K N (i : Int) = K ((i + ((s.drop i).takeWhile isBlank).length : Nat) : Int)
 | 0, i, hN, hi => by omega
 | N + 1, i, hN, hi => by
  rw [Z11]
  unfold Z3w
  by_cases h : i < s.length
  ·rw [if_pos (by simp only [decide_eq_true_eq]; omega), at_some h, Option.bind_some, rblank_eq, List.drop_eq_getElem_cons h, List.takeWhile_cons, wi_id (by omega) (by omega), show (i : Int) + 1 = ((i + 1 : Nat) : Int) by omega, rblank_l0 s hl K N (i + 1) (by omega) (by omega)]
   cases isBlank s[i] with
   | true => rw [if_pos rfl, if_pos rfl, List.length_cons]; congr 2; omega
   | false => rw [if_neg (by simp), if_neg (by simp)]; rfl
  ·rw [if_neg (by simp only [decide_eq_true_eq]; omega), if_neg (by simp), List.drop_eq_nil_of_le (by omega)]
   rfl
theorem rj7 (c : UInt8) (r : List UInt8) : (if (((decide ((c.toNat : Int) = 40)) || (decide ((c.toNat : Int) = 91))) || (decide ((c.toNat : Int) = 123))) = true then Z1v c (c :: r) 10 else Z1v c (c :: r) 12) = some ⟨oneS c, [c], [], 0⟩ := by
 have h1 : sub? (c :: r) 0 1 = some [c] := sub_take (b := 1) (by simp)
 unfold Z1v Z3y Z3x
 simp only [h1, Option.bind_some]
 rw [show decide ((c.toNat : Int) = 40) = decide (c = 40) from byte_is c 40 (by omega), show decide ((c.toNat : Int) = 91) = decide (c = 91) from byte_is c 91 (by omega), show decide ((c.toNat : Int) = 123) = decide (c = 123) from byte_is c 123 (by omega),
  show decide ((c.toNat : Int) = 41) = decide (c = 41) from byte_is c 41 (by omega), show decide ((c.toNat : Int) = 93) = decide (c = 93) from byte_is c 93 (by omega), show decide ((c.toNat : Int) = 125) = decide (c = 125) from byte_is c 125 (by omega), show decide ((c.toNat : Int) = 92) = decide (c = 92) from byte_is c 92 (by omega)]
 unfold oneS
 by_cases c1 : c = 40
 ·subst c1; rfl
 by_cases c2 : c = 91
 ·subst c2; rfl
 by_cases c3 : c = 123
 ·subst c3; rfl
 by_cases c4 : c = 41
 ·subst c4; rfl
 by_cases c5 : c = 93
 ·subst c5; rfl
 by_cases c6 : c = 125
 ·subst c6; rfl
 by_cases c7 : c = 92
 ·subst c7; rfl
 simp [c1, c2, c3, c4, c5, c6, c7]
theorem num_not (c : UInt8) (r : List UInt8) (h : c = 35 ∨ c = 64) : ¬ 0 < (numS (c :: r)).2 := by
 have hf : fromN (c :: r) = 0 := by rcases h with rfl | rfl <;> rfl
 have hd : isD c = false := by rcases h with rfl | rfl <;> rfl
 have h46 : ¬ c = 46 := by rcases h with rfl | rfl <;> decide
 have ht : (c :: r).takeWhile isD = [] := by rw [List.takeWhile_cons, hd]; rfl
 have e : numS (c :: r) = (0, 0) := by
  unfold numS
  rw [hf, List.drop_zero, ht]
  have : fracN ((c :: r).drop ([] : List UInt8).length) = [] := by
   show (if c = 46 then _ else _) = _
   rw [if_neg h46]
  simp only [this]
  rfl
 rw [e]
 simp
theorem rnameT {s : List UInt8} (hl : s.length < 140737488355328) : ((Z1a s 0).bind fun r_10 =>
   (Z6 s r_10.2).bind fun r_11 =>
   if decide (r_11 = 40) then
    (sub? s 0 (wi (r_10.2 + 1))).bind fun r_12 =>
    some (⟨2, r_12, r_10.1, 0⟩ : TSToken)
   else
    (sub? s 0 r_10.2).bind fun r_13 =>
    some (⟨1, r_13, r_10.1, 0⟩ : TSToken)) = some (nameT s) := by
 have h1 := said_eq (s := s) (i := 0) hl (Nat.zero_le _)
 have h2 := nameS_le _ s rfl
 rw [show ((0 : Nat) : Int) = 0 from rfl, List.drop_zero, Nat.zero_add] at h1
 rw [h1, Option.bind_some, rat_eq, Option.bind_some]
 show _ = some (if (s.drop (nameS s).2).head? = some 40 then (⟨2, s.take ((nameS s).2 + 1), (nameS s).1, 0⟩ : TSToken) else ⟨1, s.take (nameS s).2, (nameS s).1, 0⟩)
 have hh : (s.drop (nameS s).2).head? = s[(nameS s).2]? := by rw [List.head?_drop]
 rw [hh]
 by_cases h3 : (nameS s).2 < s.length
 ·have g : s.getD (nameS s).2 0 = s[(nameS s).2] := by rw [List.getD_eq_getElem?_getD, List.getElem?_eq_getElem h3]; rfl
  rw [g, show decide ((s[(nameS s).2].toNat : Int) = 40) = decide (s[(nameS s).2] = 40) from byte_is _ 40 (by omega), List.getElem?_eq_getElem h3]
  by_cases c : s[(nameS s).2] = 40
  ·rw [if_pos (by simpa using c), wi_id (by omega) (by omega), show ((nameS s).2 : Int) + 1 = (((nameS s).2 + 1 : Nat) : Int) by omega, sub_take (by omega), Option.bind_some]
   simp [c]
  ·rw [if_neg (by simpa using c), sub_take h2, Option.bind_some]
   simp [c]
 ·have g : s.getD (nameS s).2 0 = 0 := by rw [List.getD_eq_getElem?_getD, List.getElem?_eq_none (by omega)]; rfl
  rw [g, if_neg (by decide), sub_take h2, Option.bind_some, List.getElem?_eq_none (by omega)]
  simp
theorem TokenAt_eq {s : List UInt8} (hs : s ≠ []) (hl : s.length < 140737488355328) : Z3z s = some (firstS s) := by
 match s, hs with
 | c :: r, hs =>
  have h0 : at? (c :: r) 0 = some c := rfl
  have nf : ¬ ((false : Bool) = true) := by simp
  unfold Z3z
  rw [h0, Option.bind_some, rblank_eq]
  cases hb : isBlank c with
  | true =>
   rw [if_pos rfl]
   refine lim_of ((c :: r).length + 1) fun k hk => ?_
   rw [show (0 : Int) = ((0 : Nat) : Int) from rfl, rblank_l0 (c :: r) hl _ k 0 (by omega) (by omega), List.drop_zero, Nat.zero_add, show ((0 : Nat) : Int) = 0 from rfl]
   have hle := dropWhile_take isBlank (c :: r)
   rw [sub_take (by omega), Option.bind_some, take_takeWhile]
   unfold firstS
   rw [if_pos (by rw [List.takeWhile_cons, hb]; simp)]
  | false =>
   have htk : (c :: r).takeWhile isBlank = [] := by rw [List.takeWhile_cons, hb]; rfl
   rw [if_neg (by simp)]
   have main : ¬ (c :: r).take 2 = [47, 42] → Z1x (c :: r) c false = some (firstS (c :: r)) := by
    intro hp
    unfold firstS
    rw [if_neg (by simp [htk]), if_neg hp]
    show _ = some (tokS c r)
    unfold Z1x tokS
    rw [if_neg (by simp), show decide ((c.toNat : Int) = 39) = decide (c = 39) from byte_is c 39 (by omega), show decide ((c.toNat : Int) = 34) = decide (c = 34) from byte_is c 34 (by omega), show decide ((c.toNat : Int) = 35) = decide (c = 35) from byte_is c 35 (by omega)]
    by_cases cq : c = 39 ∨ c = 34
    ·rw [if_pos (by simpa using cq), if_pos cq, textAt_eq (q := c) rfl (by rcases cq with rfl | rfl <;> decide) hl, Option.bind_some]
     rfl
    ·rw [if_neg (by simpa using cq), if_neg cq, NumberAt_eq (by omega), Option.bind_some]
     have hn := numS_le (c :: r)
     by_cases hnum : 0 < (numS (c :: r)).2
     ·have n35 : ¬ (c = 35 ∧ hashB r = true) := fun h => num_not c r (.inl h.1) hnum
      have n64 : ¬ (c = 64 ∧ beginsS r = true) := fun h => num_not c r (.inr h.1) hnum
      have e : ((numS (c :: r)).2.toNat : Int) = (numS (c :: r)).2 := by omega
      rw [if_pos (by simpa using hnum), if_neg n35, if_neg n64, if_pos hnum, ← e, numAt_eq hl (by omega), Option.bind_some]
      rfl
     ·rw [if_neg (by simpa using hnum)]
      have j6 : ∀ v, Z2u (c :: r) c v = some (if v = true then namedT 3 (c :: r) else if beginsS (c :: r) then nameT (c :: r) else ⟨oneS c, [c], [], 0⟩) := by
       intro v
       have h1 := said_eq (s := c :: r) (i := 1) hl (by simp)
       have h2 := nameS_le _ r rfl
       have hb0 := rbegins_eq (c :: r) 0 (by omega)
       rw [show ((1 : Nat) : Int) = 1 from rfl, show (c :: r).drop 1 = r from rfl] at h1
       rw [show ((0 : Nat) : Int) = 0 from rfl, List.drop_zero] at hb0
       unfold Z2u
       cases v with
       | true =>
        rw [if_pos rfl, if_pos rfl, h1, Option.bind_some, sub_take (by simp only [List.length_cons]; omega), Option.bind_some]
        rfl
       | false =>
        rw [if_neg nf, if_neg nf, hb0, Option.bind_some]
        cases hb : beginsS (c :: r) with
        | true => rw [if_pos rfl, if_pos rfl]; exact rnameT hl
        | false => rw [if_neg nf, if_neg nf]; exact rj7 c r
      have j5 : ∀ v, Z1w (c :: r) c v = some (if v = true then namedT 4 (c :: r) else if c = 64 ∧ beginsS r = true then namedT 3 (c :: r) else if beginsS (c :: r) then nameT (c :: r) else ⟨oneS c, [c], [], 0⟩) := by
       intro v
       have h1 := said_eq (s := c :: r) (i := 1) hl (by simp)
       have h2 := nameS_le _ r rfl
       have hb1 := rbegins_eq (c :: r) 1 (by omega)
       rw [show ((1 : Nat) : Int) = 1 from rfl, show (c :: r).drop 1 = r from rfl] at h1 hb1
       unfold Z1w
       cases v with
       | true =>
        rw [if_pos rfl, if_pos rfl, h1, Option.bind_some, sub_take (by simp only [List.length_cons]; omega), Option.bind_some]
        rfl
       | false =>
        rw [if_neg nf, if_neg nf, show decide ((c.toNat : Int) = 64) = decide (c = 64) from byte_is c 64 (by omega)]
        by_cases c64 : c = 64
        ·rw [if_pos (by simpa using c64), hb1, Option.bind_some, j6]
         simp [c64]
        ·have n64 : ¬ (c = 64 ∧ beginsS r = true) := fun h => c64 h.1
         rw [if_neg (by simpa using c64), j6, if_neg nf, if_neg n64]
      by_cases c35 : c = 35
      ·have hsg := rat_eq (c :: r) 1
       have hes := rescape_eq (c :: r) 1 (by omega)
       rw [show ((1 : Nat) : Int) = 1 from rfl] at hsg hes
       rw [if_pos (by simpa using c35), hsg, Option.bind_some, rnamed_eq, hes, Option.bind_some, j5, j5]
       have key : ∀ b : Bool, (isSign ((c :: r).getD 1 0) && decide (1 < ((c :: r).length : Int))) = b → hashB r = (b || escS r) := by
        intro b hb
        subst hb
        cases r with
        | nil => rfl
        | cons d r2 =>
         have : decide (1 < ((c :: d :: r2).length : Int)) = true := by simp; omega
         rw [this]
         show (isSign d || escS (d :: r2)) = ((isSign d && true) || escS (d :: r2))
         rw [Bool.and_true]
       cases hcc : (isSign ((c :: r).getD 1 0) && decide (1 < ((c :: r).length : Int))) with
       | true =>
        have := key true hcc
        rw [if_pos rfl, if_pos rfl, if_pos ⟨c35, by rw [this]; rfl⟩]
       | false =>
        have := key false hcc
        rw [Bool.false_or] at this
        rw [if_neg nf, show (c :: r).drop 1 = r from rfl]
        cases he : escS r with
        | true => rw [if_pos rfl, if_pos ⟨c35, by rw [this, he]⟩]
        | false =>
         have n35 : ¬ (c = 35 ∧ hashB r = true) := fun h => by have := h.2; rw [‹hashB r = escS r›, he] at this; cases this
         rw [if_neg nf, if_neg n35, if_neg hnum]
      ·have n35 : ¬ (c = 35 ∧ hashB r = true) := fun h => c35 h.1
       rw [if_neg (by simpa using c35), j5, if_neg nf, if_neg n35, if_neg hnum]
   rw [show decide ((c.toNat : Int) = 47) = decide (c = 47) from byte_is c 47 (by omega)]
   by_cases c47 : c = 47
   ·have h1 := rat_eq (c :: r) 1
    rw [show ((1 : Nat) : Int) = 1 from rfl] at h1
    rw [if_pos (by simpa using c47), h1, Option.bind_some]
    cases r with
    | nil => exact main (by simp)
    | cons d r2 =>
     rw [show (c :: d :: r2).getD 1 0 = d from rfl, show decide ((d.toNat : Int) = 42) = decide (d = 42) from byte_is d 42 (by omega)]
     by_cases d42 : d = 42
     ·rw [show decide (d = 42) = true by simpa using d42]
      unfold Z1x firstS
      rw [if_pos rfl, noteAt_eq hl (by simp), Option.bind_some, if_neg (by simp [htk]), if_pos (by simp [c47, d42])]
     ·rw [show decide (d = 42) = false by simpa using d42]
      exact main (by simp [d42])
   ·rw [if_neg (by simpa using c47)]
    exact main (by cases r <;> simp [c47])
theorem tok_l0 : ∀ (N : Nat) (s : List UInt8) (out : List TSToken), s.length < N → s.length < 4294967281 → out.length + s.length < 4294967281 →
  Z1b (fun out => some out) N s out = some (out ++ cutS s)
 | 0, s, out, hN, hl, ho => by omega
 | N + 1, s, out, hN, hl, ho => by
  rw [Z1b]
  by_cases hs : s = []
  ·subst hs
   rw [if_neg (by simp)]
   simp [cutS, cutF]
  ·obtain ⟨h1, h2⟩ := firstS_raw hs
   have hp := List.length_pos_iff.2 hs
   rw [if_pos (by simp only [decide_eq_true_eq]; omega), TokenAt_eq hs (by omega), Option.bind_some, appq (by simp; omega), Option.bind_some, sub_drop h2, Option.bind_some, tok_l0 N _ _ (by rw [List.length_drop]; omega) (by rw [List.length_drop]; omega) (by rw [List.length_append, List.length_drop]; simp; omega)]
   congr 1
   rw [List.append_assoc]
   congr 1
   unfold cutS
   have hlen : s.length = (s.length - 1) + 1 := by omega
   rw [hlen, cutF, if_neg hs, cutF_more (s.length - 1) (s.drop (firstS s).Raw.length).length _ (by rw [List.length_drop]; omega) (Nat.le_refl _)]
   rfl
theorem Tokens_eq {s : List UInt8} (hl : s.length < 4294967281) : Z40 s = some (cutS s) := by
 unfold Z40
 exact lim_of (s.length + 1) fun k hk => by rw [tok_l0 k s [] (by omega) hl (by simpa using hl)]; rfl
theorem cutF_len : ∀ (N : Nat) (s : List UInt8), (cutF N s).length ≤ s.length
 | 0, s => by simp [cutF]
 | N + 1, s => by
  rw [cutF]
  by_cases hs : s = []
  ·simp [hs]
  ·have := firstS_raw hs
   have h2 := cutF_len N (s.drop (firstS s).Raw.length)
   rw [List.length_drop] at h2
   rw [if_neg hs, List.length_cons]
   omega
end Go.Proofs.YtaejmblphhjccaaGreatDoorBv
/- The program's check of a document: it answers whatever the document is, and what is known of one that is right. No program is in sight. -/
namespace Go.Proofs.YtaejmblphhjccaaGreatDoorBv
open Go
set_option linter.unusedSimpArgs false
set_option linter.unusedVariables false
theorem named_tot (s first : List UInt8) : ∃ b, Z2f s first = some b := by
 unfold Z2f Z2e
 by_cases h : ((!decide (s = [])) && (decide ((s.length : Int) ≤ 40))) = true
 ·rw [if_pos h]
  simp only [Bool.and_eq_true, Bool.not_eq_true', decide_eq_false_iff_not, decide_eq_true_eq] at h
  match s, h with
  | c :: r, h =>
   rw [show at? (c :: r) 0 = some c from rfl, Option.bind_some]
   show ∃ b, (indexByte? first (c.toNat : Int)).bind _ = some b
   unfold indexByte?
   rw [Option.bind_some]
   split
   ·show ∃ b, (trim? (c :: r) _).bind _ = some b
    unfold trim?
    rw [if_pos ⟨by omega, by decide, by decide⟩, Option.bind_some]
    exact ⟨_, rfl⟩
   ·exact ⟨_, rfl⟩
  | [], h => exact absurd rfl h.1
 ·rw [if_neg h]; exact ⟨_, rfl⟩
theorem Name_tot (s : List UInt8) : ∃ b, Z3a s = some b := by
 obtain ⟨b, hb⟩ := named_tot s (([97, 98, 99, 100, 101, 102, 103, 104, 105, 106, 107, 108, 109, 110, 111, 112, 113, 114, 115, 116, 117, 118, 119, 120, 121, 122] : List UInt8))
 refine ⟨b, ?_⟩
 unfold Z3a
 rw [show sub? ([97, 98, 99, 100, 101, 102, 103, 104, 105, 106, 107, 108, 109, 110, 111, 112, 113, 114, 115, 116, 117, 118, 119, 120, 121, 122, 48, 49, 50, 51, 52, 53, 54, 55, 56, 57, 45, 95, 58] : List UInt8) 0 26 = some [97, 98, 99, 100, 101, 102, 103, 104, 105, 106, 107, 108, 109, 110, 111, 112, 113, 114, 115, 116, 117, 118, 119, 120, 121, 122] from rfl, Option.bind_some, hb]
 rfl
theorem attrName_tot (s : List UInt8) : ∃ b, Z3b s = some b := by
 obtain ⟨b, hb⟩ := named_tot s (([97, 98, 99, 100, 101, 102, 103, 104, 105, 106, 107, 108, 109, 110, 111, 112, 113, 114, 115, 116, 117, 118, 119, 120, 121, 122, 45, 95] : List UInt8))
 refine ⟨b, ?_⟩
 unfold Z3b
 rw [show sub? ([97, 98, 99, 100, 101, 102, 103, 104, 105, 106, 107, 108, 109, 110, 111, 112, 113, 114, 115, 116, 117, 118, 119, 120, 121, 122, 48, 49, 50, 51, 52, 53, 54, 55, 56, 57, 45, 95, 58] : List UInt8) 0 26 = some [97, 98, 99, 100, 101, 102, 103, 104, 105, 106, 107, 108, 109, 110, 111, 112, 113, 114, 115, 116, 117, 118, 119, 120, 121, 122] from rfl, Option.bind_some,
  show cat? ([97, 98, 99, 100, 101, 102, 103, 104, 105, 106, 107, 108, 109, 110, 111, 112, 113, 114, 115, 116, 117, 118, 119, 120, 121, 122] : List UInt8) [45, 95] = some [97, 98, 99, 100, 101, 102, 103, 104, 105, 106, 107, 108, 109, 110, 111, 112, 113, 114, 115, 116, 117, 118, 119, 120, 121, 122, 45, 95] from rfl, Option.bind_some, hb]
 rfl
theorem find_loop (l : List TAttr) (x : List UInt8) (hl : l.length ≤ 140737488355328) : ∀ (d i : Nat), i + d = l.length → ∃ r, ∀ m, Zc l x (fun _ => some (-1)) (m + d + 1) (i : Int) = some r
 | 0, i, hi => by
  refine ⟨-1, fun m => ?_⟩
  rw [Zc, if_neg (by simp only [decide_eq_true_eq]; omega)]
 | d + 1, i, hi => by
  have h : i < l.length := by omega
  obtain ⟨r, hr⟩ := find_loop l x hl d (i + 1) (by omega)
  by_cases hc : Z2g l[i] x = true
  ·refine ⟨i, fun m => ?_⟩
   rw [Zc, if_pos (by simp only [decide_eq_true_eq]; omega), at_some h, Option.bind_some, if_pos hc]
  ·refine ⟨r, fun m => ?_⟩
   rw [Zc, if_pos (by simp only [decide_eq_true_eq]; omega), at_some h, Option.bind_some, if_neg hc, wi_id (by omega) (by omega), show (i : Int) + 1 = ((i + 1 : Nat) : Int) by omega]
   exact hr m
theorem find_tot (l : List TAttr) (x : List UInt8) (hl : l.length ≤ 140737488355328) : ∃ r, Z3c l x = some r := by
 obtain ⟨r, hr⟩ := find_loop l x hl l.length 0 (by omega)
 refine ⟨r, ?_⟩
 unfold Z3c Z4b
 rw [show (lim fun kk => Zc l x (fun _ => some (-1)) kk 0) = some r from lim_add (l.length + 1) fun m => hr m]
 rfl
theorem attrs_loop (l : List TAttr) (hl : l.length ≤ 12) : ∀ (d i : Nat), i + d = l.length → ∃ r, ∀ m, Z4 l (fun _ => some 0) (m + d + 1) (i : Int) = some r
 | 0, i, hi => by
  refine ⟨0, fun m => ?_⟩
  rw [Z4, if_neg (by simp only [decide_eq_true_eq]; omega)]
 | d + 1, i, hi => by
  have h : i < l.length := by omega
  obtain ⟨r, hr⟩ := attrs_loop l hl d (i + 1) (by omega)
  obtain ⟨b, hb⟩ := attrName_tot l[i].Name
  obtain ⟨q, hq⟩ := find_tot (l.take i) l[i].Name (by rw [List.length_take]; omega)
  have go : ∀ m, Z4 l (fun _ => some 0) (m + (d + 1) + 1) (i : Int) = if (!b) then some 3 else if decide (400 < (l[i].Value.length : Int)) then some 2 else if decide (0 ≤ q) then some 3 else some r := by
   intro m
   rw [Z4, if_pos (by simp only [decide_eq_true_eq]; omega), at_some h, Option.bind_some, hb, Option.bind_some, sub_take (by omega), Option.bind_some, hq, Option.bind_some, wi_id (by omega) (by omega), show (i : Int) + 1 = ((i + 1 : Nat) : Int) by omega,
    show m + (d + 1) = m + d + 1 by omega, hr m]
  by_cases c1 : (!b) = true
  ·exact ⟨3, fun m => by rw [go, if_pos c1]⟩
  by_cases c2 : decide (400 < (l[i].Value.length : Int)) = true
  ·exact ⟨2, fun m => by rw [go, if_neg c1, if_pos c2]⟩
  by_cases c3 : decide (0 ≤ q) = true
  ·exact ⟨3, fun m => by rw [go, if_neg c1, if_neg c2, if_pos c3]⟩
  exact ⟨r, fun m => by rw [go, if_neg c1, if_neg c2, if_neg c3]⟩
theorem attrs_tot (l : List TAttr) : ∃ r, Zh l = some r := by
 unfold Zh
 by_cases h : decide (12 < (l.length : Int)) = true
 ·rw [if_pos h]; exact ⟨_, rfl⟩
 ·rw [if_neg h]
  have hl : l.length ≤ 12 := by simp only [decide_eq_true_eq] at h; omega
  obtain ⟨r, hr⟩ := attrs_loop l hl l.length 0 (by omega)
  exact ⟨r, lim_add (l.length + 1) fun m => hr m⟩
theorem one_tot (x : TNode) : ∃ r, Zd x = some r := by
 obtain ⟨b, hb⟩ := Name_tot x.Name
 obtain ⟨q, hq⟩ := attrs_tot x.Attrs
 have j : ∀ v, ∃ r, Zv x v = some r := by
  intro v
  unfold Zv
  rw [hq, Option.bind_some]
  repeat' split
  all_goals exact ⟨_, rfl⟩
 unfold Zd
 rw [hb, Option.bind_some]
 split
 ·exact ⟨_, rfl⟩
 ·split
  ·exact j _
  ·exact j _
/-! ### kids and parents -/
def ParOK (d : TDoc) : Prop := ∀ (i : Nat) (h : i < d.Nodes.length), d.Nodes[i].Parent = -1 ∨ (0 ≤ d.Nodes[i].Parent ∧ d.Nodes[i].Parent < d.Nodes.length)
def KidOK (d : TDoc) (i : Nat) (k : Int) : Prop := ∃ j : Nat, k = j ∧ ∃ h : j < d.Nodes.length, d.Nodes[j].Parent = i
def KidsTo (d : TDoc) (n : Nat) : Prop := ∀ (i : Nat) (h : i < d.Nodes.length), i < n → ∀ k, k ∈ d.Nodes[i].Kids → KidOK d i k
def Root (d : TDoc) : Prop := ∃ h : 0 < d.Nodes.length, d.Nodes[0].Parent = -1
def KGoal (d : TDoc) (e : Int) : Prop := e = 0 → ParOK d ∧ KidsTo d d.Nodes.length ∧ Root d
def SeenOK (d : TDoc) (seen : List Bool) : Prop := seen.length = d.Nodes.length ∧ ∀ (k : Nat) (h : k < d.Nodes.length), seen[k]? = some true → 0 ≤ d.Nodes[k].Parent ∧ d.Nodes[k].Parent < d.Nodes.length
theorem kids_l3 (d : TDoc) (i : Nat) (hi : i < d.Nodes.length) (hn : d.Nodes.length ≤ 200) (hk : d.Nodes[i].Kids.length ≤ 140737488355328) (E : List Bool → Int) : ∀ (c j : Nat) (seen : List Bool), j + c = d.Nodes[i].Kids.length → SeenOK d seen → (∀ k, k ∈ d.Nodes[i].Kids.take j → KidOK d i k) →
  ∃ e, (((∀ k, k ∈ d.Nodes[i].Kids → KidOK d i k) → ∀ s, SeenOK d s → KGoal d (E s)) → KGoal d e) ∧ ∀ K, (∀ s, SeenOK d s → K s = some (E s)) → ∀ m, Z0 d.Nodes[i] (i : Int) d K (m + c + 1) seen (j : Int) = some e
 | 0, j, seen, hj, hs, hp => by
  refine ⟨E seen, fun hE => hE (by rw [List.take_of_length_le (by omega)] at hp; exact hp) seen hs, fun K hK m => ?_⟩
  rw [Z0, if_neg (by simp only [decide_eq_true_eq]; omega)]
  exact hK seen hs
 | c + 1, j, seen, hj, hs, hp => by
  have h : j < d.Nodes[i].Kids.length := by omega
  have bad3 : ∀ (self : List Bool → Int → Option Int) (K : List Bool → Option Int), Zw (i : Int) d d.Nodes[i].Kids[j] (j : Int) d.Nodes[i] self K seen true = some 3 := by
   intro self K; unfold Zw; rw [if_pos rfl]
  have g3 : KGoal d 3 := fun h => by cases h
  have g7 : KGoal d 7 := fun h => by cases h
  by_cases c1 : ((decide (d.Nodes[i].Kids[j] < 0)) || (decide ((seen.length : Int) ≤ d.Nodes[i].Kids[j]))) = true
  ·refine ⟨3, fun _ => g3, fun K hK m => ?_⟩
   rw [Z0, if_pos (by simp only [decide_eq_true_eq]; omega), at_some h, Option.bind_some, if_pos c1, bad3]
  ·have hr : 0 ≤ d.Nodes[i].Kids[j] ∧ d.Nodes[i].Kids[j] < d.Nodes.length := by
    simp only [Bool.or_eq_true, decide_eq_true_eq] at c1
    have := hs.1
    omega
   obtain ⟨k, ek⟩ : ∃ k : Nat, d.Nodes[i].Kids[j] = k := ⟨d.Nodes[i].Kids[j].toNat, by omega⟩
   have hk1 : k < d.Nodes.length := by omega
   have hk2 : k < seen.length := by rw [hs.1]; exact hk1
   rw [ek] at c1 bad3
   by_cases c2 : d.Nodes[k].Parent = (i : Int)
   ·by_cases c3 : seen[k] = true
    ·refine ⟨3, fun _ => g3, fun K hK m => ?_⟩
     rw [Z0, if_pos (by simp only [decide_eq_true_eq]; omega), at_some h, Option.bind_some, ek, if_neg c1, at_some hk1, Option.bind_some, if_neg (by simpa using c2), at_some hk2, Option.bind_some, c3, bad3]
    ·have c3' : seen[k] = false := by simpa using c3
     have hs' : SeenOK d (seen.set k true) := by
      refine ⟨by rw [List.length_set]; exact hs.1, fun q hq hqs => ?_⟩
      by_cases e : q = k
      ·subst e; rw [c2]; omega
      ·rw [List.getElem?_set_ne (Ne.symm e)] at hqs
       exact hs.2 q hq hqs
     have hp' : ∀ q, q ∈ d.Nodes[i].Kids.take (j + 1) → KidOK d i q := by
      intro q hq
      rw [List.take_add_one, List.getElem?_eq_getElem h] at hq
      rcases List.mem_append.1 hq with hq | hq
      ·exact hp q hq
      ·have : q = d.Nodes[i].Kids[j] := by simpa using hq
       exact ⟨k, by rw [this, ek], hk1, c2⟩
     obtain ⟨e, he1, he2⟩ := kids_l3 d i hi hn hk E c (j + 1) (seen.set k true) (by omega) hs' hp'
     have j18 : ∀ (K : List Bool → Option Int) (m : Nat) (v : Bool), (∀ s, SeenOK d s → K s = some (E s)) → Z2h (k : Int) (j : Int) (i : Int) d d.Nodes[i] (Z0 d.Nodes[i] (i : Int) d K (m + c + 1)) K seen v = some (if v then 7 else e) := by
      intro K m v hK
      unfold Z2h
      cases v with
      | true => rfl
      | false =>
       rw [if_neg (by simp), at_some hk2, Option.bind_some, wi_id (by omega) (by omega), show (j : Int) + 1 = ((j + 1 : Nat) : Int) by omega, Int.toNat_natCast]
       exact he2 K hK m
     have head : ∀ (K : List Bool → Option Int) (m : Nat), Z0 d.Nodes[i] (i : Int) d K (m + (c + 1) + 1) seen (j : Int) = Zw (i : Int) d (k : Int) (j : Int) d.Nodes[i] (Z0 d.Nodes[i] (i : Int) d K (m + c + 1)) K seen false := by
      intro K m
      rw [Z0, if_pos (by simp only [decide_eq_true_eq]; omega), at_some h, Option.bind_some, ek, if_neg c1, at_some hk1, Option.bind_some, if_neg (by simpa using c2), at_some hk2, Option.bind_some, c3']
      rfl
     by_cases c4 : (decide ((i : Int) = 0) && decide (d.Nodes[k].Kind = 3)) = true
     ·refine ⟨7, fun _ => g7, fun K hK m => ?_⟩
      simp only [Bool.and_eq_true, decide_eq_true_eq] at c4
      rw [head]
      unfold Zw
      rw [if_neg (by simp), if_pos (by simpa using c4.1), at_some hk1, Option.bind_some, j18 K m _ hK, show decide (d.Nodes[k].Kind = 3) = true by simpa using c4.2]
      rfl
     ·refine ⟨e, he1, fun K hK m => ?_⟩
      rw [head]
      unfold Zw
      rw [if_neg (by simp)]
      by_cases c5 : decide ((i : Int) = 0) = true
      ·rw [c5, Bool.true_and] at c4
       rw [if_pos c5, at_some hk1, Option.bind_some, j18 K m _ hK, if_neg c4]
      ·rw [if_neg c5, j18 K m _ hK]
       rfl
   ·refine ⟨3, fun _ => g3, fun K hK m => ?_⟩
    rw [Z0, if_pos (by simp only [decide_eq_true_eq]; omega), at_some h, Option.bind_some, ek, if_neg c1, at_some hk1, Option.bind_some, if_pos (by simpa using c2), bad3]
theorem kids_l2 (d : TDoc) (hn : d.Nodes.length ≤ 200) (hk : ∀ x, x ∈ d.Nodes → x.Kids.length ≤ 140737488355328) (K0 : List Bool → Option Int) (E0 : List Bool → Int) (hK0 : ∀ s, SeenOK d s → K0 s = some (E0 s))
  (hE0 : KidsTo d d.Nodes.length → ∀ s, SeenOK d s → KGoal d (E0 s)) : ∀ (c i : Nat), i + c = d.Nodes.length → ∃ E : List Bool → Int, ∀ s, SeenOK d s → (KidsTo d i → KGoal d (E s)) ∧ ∀ m, Zi d K0 (m + c + 1) s (i : Int) = some (E s)
 | 0, i, hi => by
  obtain rfl : i = d.Nodes.length := by omega
  refine ⟨E0, fun s hs => ⟨fun hto => hE0 hto s hs, fun m => ?_⟩⟩
  rw [Zi, if_neg (by simp)]
  exact hK0 s hs
 | c + 1, i, hi => by
  have h : i < d.Nodes.length := by omega
  obtain ⟨E1, h1⟩ := kids_l2 d hn hk K0 E0 hK0 hE0 c (i + 1) (by omega)
  have step : ∀ s, SeenOK d s → ∃ e, (KidsTo d i → KGoal d e) ∧ ∀ m, Zi d K0 (m + (c + 1) + 1) s (i : Int) = some e := by
   intro s hs
   obtain ⟨e, he1, he2⟩ := kids_l3 d i h hn (hk _ (List.getElem_mem h)) E1 d.Nodes[i].Kids.length 0 s (by omega) hs (by simp)
   refine ⟨e, fun hto => he1 fun hall s hs => (h1 s hs).1 ?_, fun m => ?_⟩
   ·intro q hq hlt k hkq
    by_cases e : q = i
    ·subst e; exact hall k hkq
    ·exact hto q hq (by omega) k hkq
   ·rw [Zi, if_pos (by simp only [decide_eq_true_eq]; omega), at_some h, Option.bind_some]
    refine lim_add (d.Nodes[i].Kids.length + 1) fun q => ?_
    refine he2 _ (fun s' hs' => ?_) q
    rw [wi_id (by omega) (by omega), show (i : Int) + 1 = ((i + 1 : Nat) : Int) by omega]
    exact (h1 s' hs').2 m
  exact ⟨fun s => open Classical in if hs : SeenOK d s then (step s hs).choose else 0, fun s hs => by
   simp only [dif_pos hs]
   exact (step s hs).choose_spec⟩
theorem kids_l4 (d : TDoc) (hn : d.Nodes.length ≤ 200) (seen : List Bool) (hs : SeenOK d seen) (E5 : Int) (K5 : Unit → Option Int) (hK5 : K5 () = some E5) : ∀ (c i : Nat), i + c = d.Nodes.length →
  ∃ e, (e = 0 → E5 = 0 ∧ ∀ (q : Nat) (h : q < d.Nodes.length), i ≤ q → d.Nodes[q].Parent = -1 ∨ seen[q]? = some true) ∧ ∀ m, Z1 d K5 (m + c + 1) seen (i : Int) = some e
 | 0, i, hi => by
  refine ⟨E5, fun h => ⟨h, fun q hq hle => by omega⟩, fun m => ?_⟩
  rw [Z1, if_neg (by simp only [decide_eq_true_eq]; omega)]
  exact hK5
 | c + 1, i, hi => by
  have h : i < d.Nodes.length := by omega
  have h2 : i < seen.length := by rw [hs.1]; exact h
  obtain ⟨e, he1, he2⟩ := kids_l4 d hn seen hs E5 K5 hK5 c (i + 1) (by omega)
  have cont : ∀ m, Z1f (i : Int) d (Z1 d K5 (m + c + 1)) K5 seen false = some e := by
   intro m
   unfold Z1f
   rw [if_neg (by simp), wi_id (by omega) (by omega), show (i : Int) + 1 = ((i + 1 : Nat) : Int) by omega]
   exact he2 m
  have head : ∀ m, Z1 d K5 (m + (c + 1) + 1) seen (i : Int) = if (!decide (d.Nodes[i].Parent = (-1))) then Z1f (i : Int) d (Z1 d K5 (m + c + 1)) K5 seen (!seen[i]) else Z1f (i : Int) d (Z1 d K5 (m + c + 1)) K5 seen false := by
   intro m
   rw [Z1, if_pos (by simp only [decide_eq_true_eq]; omega), at_some h, Option.bind_some, at_some h2, Option.bind_some]
   rfl
  by_cases c1 : d.Nodes[i].Parent = -1
  ·refine ⟨e, fun h0 => ⟨(he1 h0).1, fun q hq hle => ?_⟩, fun m => by rw [head, if_neg (by simp [c1]), cont]⟩
   by_cases eq : q = i
   ·subst eq; exact .inl c1
   ·exact (he1 h0).2 q hq (by omega)
  ·cases hsi : seen[i] with
   | true =>
    refine ⟨e, fun h0 => ⟨(he1 h0).1, fun q hq hle => ?_⟩, fun m => by rw [head, if_pos (by simp [c1]), hsi]; exact cont m⟩
    by_cases eq : q = i
    ·subst eq; exact .inr (by rw [List.getElem?_eq_getElem h2, hsi])
    ·exact (he1 h0).2 q hq (by omega)
   | false =>
    refine ⟨3, (fun h0 => by cases h0), fun m => ?_⟩
    rw [head, if_pos (by simp [c1]), hsi]
    rfl
theorem kids_tot (d : TDoc) (hn : d.Nodes.length ≤ 200) (h0 : 0 < d.Nodes.length) (hk : ∀ x, x ∈ d.Nodes → x.Kids.length ≤ 140737488355328) : ∃ e, Z1s d = some e ∧ KGoal d e := by
 have hroot : ∃ E5, (if (!decide (d.Nodes[0].Parent = (-1))) then some 3 else some (0 : Int)) = some E5 ∧ (E5 = 0 → Root d) := by
  by_cases c : d.Nodes[0].Parent = -1
  ·exact ⟨0, by rw [if_neg (by simp [c])], fun _ => ⟨h0, c⟩⟩
  ·exact ⟨3, by rw [if_pos (by simp [c])], fun h => by cases h⟩
 obtain ⟨E5, e51, e52⟩ := hroot
 have a0 : at? d.Nodes 0 = some d.Nodes[0] := by
  have := at_some h0
  simpa using this
 have k4 : ∀ s, SeenOK d s → ∃ e, (KidsTo d d.Nodes.length → KGoal d e) ∧ (lim fun kk1 => Z1 d (fun (_ : Unit) => (at? d.Nodes 0).bind fun x_8 => if (!decide (x_8.Parent = (-1))) then some 3 else some 0) kk1 s 0) = some e := by
  intro s hs
  obtain ⟨e, he1, he2⟩ := kids_l4 d hn s hs E5 (fun (_ : Unit) => (at? d.Nodes 0).bind fun x_8 => if (!decide (x_8.Parent = (-1))) then some 3 else some 0) (by rw [a0, Option.bind_some]; exact e51) d.Nodes.length 0 (by omega)
  refine ⟨e, fun hto hz => ⟨fun i hi => ?_, hto, e52 (he1 hz).1⟩, lim_add (d.Nodes.length + 1) fun m => he2 m⟩
  rcases (he1 hz).2 i hi (Nat.zero_le _) with h | h
  ·exact .inl h
  ·exact .inr (hs.2 i hi h)
 have hrow : SeenOK d (List.replicate d.Nodes.length false) := by
  refine ⟨by simp, fun k h hk => ?_⟩
  rw [List.getElem?_replicate, if_pos h] at hk
  cases hk
 obtain ⟨E, hE⟩ := kids_l2 d hn hk (fun (seen1 : (List Bool)) => lim fun kk1 => Z1 d (fun (_ : Unit) => (at? d.Nodes 0).bind fun x_8 => if (!decide (x_8.Parent = (-1))) then some 3 else some 0) kk1 seen1 0)
  (fun s => open Classical in if hs : SeenOK d s then (k4 s hs).choose else 0) (fun s hs => by rw [dif_pos hs]; exact (k4 s hs).choose_spec.2) (fun hto s hs => by rw [dif_pos hs]; exact (k4 s hs).choose_spec.1 hto) d.Nodes.length 0 (by omega)
 obtain ⟨g1, g2⟩ := hE _ hrow
 refine ⟨E (List.replicate d.Nodes.length false), ?_, g1 fun i h hlt => by omega⟩
 unfold Z1s
 rw [mkl_some (by omega) (Int.le_refl _) (by omega) (by omega), Option.bind_some, Int.toNat_natCast]
 exact lim_add (d.Nodes.length + 1) fun m => g2 m
/-! ### how deep a node lies -/
theorem up_loop (d : TDoc) (hn : d.Nodes.length ≤ 200) (hp : ParOK d) : ∀ (c i many : Nat), i < d.Nodes.length → many + c = d.Nodes.length + 1 → ∃ r, ∀ m, Z5 d (fun many1 => some many1) (m + c + 1) (i : Int) (many : Int) = some r
 | 0, i, many, hi, hc => by
  refine ⟨many, fun m => ?_⟩
  rw [Z5, at_some hi, Option.bind_some, if_neg (by simp only [Bool.and_eq_true, decide_eq_true_eq]; omega)]
 | c + 1, i, many, hi, hc => by
  by_cases hpar : 0 ≤ d.Nodes[i].Parent
  ·have := hp i hi
   obtain ⟨j, ej⟩ : ∃ j : Nat, d.Nodes[i].Parent = j := ⟨d.Nodes[i].Parent.toNat, by omega⟩
   obtain ⟨r, hr⟩ := up_loop d hn hp c j (many + 1) (by omega) (by omega)
   refine ⟨r, fun m => ?_⟩
   rw [Z5, at_some hi, Option.bind_some, if_pos (by simp only [Bool.and_eq_true, decide_eq_true_eq]; omega), Option.bind_some, ej, wi_id (by omega) (by omega), show (many : Int) + 1 = ((many + 1 : Nat) : Int) by omega]
   exact hr m
  ·refine ⟨many, fun m => ?_⟩
   rw [Z5, at_some hi, Option.bind_some, if_neg (by simp only [Bool.and_eq_true, decide_eq_true_eq]; omega)]
theorem up_tot (d : TDoc) (hn : d.Nodes.length ≤ 200) (hp : ParOK d) (i : Nat) (hi : i < d.Nodes.length) : ∃ r, Z17 d (i : Int) = some r := by
 obtain ⟨r, hr⟩ := up_loop d hn hp (d.Nodes.length + 1) i 0 hi (by omega)
 refine ⟨r, ?_⟩
 unfold Z17
 exact lim_add (d.Nodes.length + 1 + 1) fun m => hr m
def Deep (d : TDoc) : Prop := ∀ (i : Nat), i < d.Nodes.length → ∃ r, Z17 d (i : Int) = some r ∧ r ≤ 40 ∧ r ≤ (d.Nodes.length : Int)
theorem check_l1 (d : TDoc) (hn : d.Nodes.length ≤ 200) (hp : ParOK d) : ∀ (c i : Nat), i + c = d.Nodes.length →
  ∃ e, (e = 0 → ∀ (q : Nat), q < d.Nodes.length → i ≤ q → ∃ r, Z17 d (q : Int) = some r ∧ r ≤ 40 ∧ r ≤ (d.Nodes.length : Int)) ∧ ∀ m, Za d (fun _ => some 0) (m + c + 1) (i : Int) = some e
 | 0, i, hi => by
  refine ⟨0, fun _ q h1 h2 => by omega, fun m => ?_⟩
  rw [Za, if_neg (by simp only [decide_eq_true_eq]; omega)]
 | c + 1, i, hi => by
  have h : i < d.Nodes.length := by omega
  obtain ⟨r, hr⟩ := up_tot d hn hp i h
  obtain ⟨e, he1, he2⟩ := check_l1 d hn hp c (i + 1) (by omega)
  have head : ∀ m, Za d (fun _ => some 0) (m + (c + 1) + 1) (i : Int) = if decide ((d.Nodes.length : Int) < r) then some 8 else if decide (40 < r) then some 2 else some e := by
   intro m
   rw [Za, if_pos (by simp only [decide_eq_true_eq]; omega), hr, Option.bind_some, wi_id (by omega) (by omega), show (i : Int) + 1 = ((i + 1 : Nat) : Int) by omega, show m + (c + 1) = m + c + 1 by omega, he2 m]
  by_cases c1 : decide ((d.Nodes.length : Int) < r) = true
  ·exact ⟨8, (fun h => by cases h), fun m => by rw [head, if_pos c1]⟩
  by_cases c2 : decide (40 < r) = true
  ·exact ⟨2, (fun h => by cases h), fun m => by rw [head, if_neg c1, if_pos c2]⟩
  refine ⟨e, fun h0 q h1 h2 => ?_, fun m => by rw [head, if_neg c1, if_neg c2]⟩
  by_cases eq : q = i
  ·subst eq; exact ⟨r, hr, by simpa using c2, by simpa using c1⟩
  ·exact he1 h0 q h1 (by omega)
theorem check_l0 (d : TDoc) (hn : d.Nodes.length ≤ 200) (E1 : Int) (K1 : Unit → Option Int) (hK : K1 () = some E1) : ∀ (c i : Nat), i + c = d.Nodes.length →
  ∃ e, (e = 0 → E1 = 0 ∧ ∀ (q : Nat) (h : q < d.Nodes.length), i ≤ q → Zd d.Nodes[q] = some 0 ∧ (d.Nodes[q].Kind = 1 ↔ q = 0)) ∧ ∀ m, Zj d K1 (m + c + 1) (i : Int) = some e
 | 0, i, hi => by
  refine ⟨E1, fun h => ⟨h, fun q h1 h2 => by omega⟩, fun m => ?_⟩
  rw [Zj, if_neg (by simp only [decide_eq_true_eq]; omega)]
  exact hK
 | c + 1, i, hi => by
  have h : i < d.Nodes.length := by omega
  obtain ⟨r, hr⟩ := one_tot d.Nodes[i]
  obtain ⟨e, he1, he2⟩ := check_l0 d hn E1 K1 hK c (i + 1) (by omega)
  have head : ∀ m, Zj d K1 (m + (c + 1) + 1) (i : Int) = if (!((decide (d.Nodes[i].Kind = 1) == decide ((i : Int) = 0)) && true)) then some 3 else if (!decide (r = 0)) then some r else some e := by
   intro m
   rw [Zj, if_pos (by simp only [decide_eq_true_eq]; omega), at_some h, Option.bind_some, hr, Option.bind_some, wi_id (by omega) (by omega), show (i : Int) + 1 = ((i + 1 : Nat) : Int) by omega, show m + (c + 1) = m + c + 1 by omega, he2 m]
  by_cases c1 : (!((decide (d.Nodes[i].Kind = 1) == decide ((i : Int) = 0)) && true)) = true
  ·exact ⟨3, (fun h => by cases h), fun m => by rw [head, if_pos c1]⟩
  by_cases c2 : (!decide (r = 0)) = true
  ·exact ⟨r, fun h => by simp [h] at c2, fun m => by rw [head, if_neg c1, if_pos c2]⟩
  refine ⟨e, fun h0 => ⟨(he1 h0).1, fun q h1 h2 => ?_⟩, fun m => by rw [head, if_neg c1, if_neg c2]⟩
  by_cases eq : q = i
  ·subst eq
   refine ⟨by simp at c2; rw [hr, c2], ?_⟩
   simp only [Bool.and_true, Bool.not_eq_true', Bool.not_eq_false, beq_iff_eq] at c1
   have c1' : decide (d.Nodes[q].Kind = 1) = decide ((q : Int) = 0) := by simpa using c1
   constructor
   ·intro hk
    have : decide ((q : Int) = 0) = true := by rw [← c1']; simpa using hk
    simp at this
    omega
   ·intro hq
    have : decide (d.Nodes[q].Kind = 1) = true := by rw [c1']; simp [hq]
    simpa using this
  ·exact (he1 h0).2 q h1 (by omega)
/-- what a document is, that is right -/
structure DocOK (d : TDoc) : Prop where
 pos : 0 < d.Nodes.length
 many : d.Nodes.length ≤ 200
 par : ParOK d
 kids : KidsTo d d.Nodes.length
 root : Root d
 deep : Deep d
 one : ∀ (q : Nat) (h : q < d.Nodes.length), Zd d.Nodes[q] = some 0 ∧ (d.Nodes[q].Kind = 1 ↔ q = 0)
theorem check_tot (d : TDoc) (hk : ∀ x, x ∈ d.Nodes → x.Kids.length ≤ 140737488355328) : ∃ e, Z2i d = some e ∧ (e = 0 → DocOK d) := by
 unfold Z2i
 by_cases c1 : decide (200 < (d.Nodes.length : Int)) = true
 ·exact ⟨2, by rw [if_pos c1], fun h => by cases h⟩
 rw [if_neg c1]
 by_cases c2 : decide ((d.Nodes.length : Int) = 0) = true
 ·exact ⟨3, by rw [if_pos c2], fun h => by cases h⟩
 rw [if_neg c2]
 have hn : d.Nodes.length ≤ 200 := by simp only [decide_eq_true_eq] at c1; omega
 have h0 : 0 < d.Nodes.length := by simp only [decide_eq_true_eq] at c2; omega
 obtain ⟨r, r1, r2⟩ := kids_tot d hn h0 hk
 have hE : ∃ E1, ((Z1s d).bind fun r_1 => if (!decide (r_1 = 0)) then some r_1 else lim fun kk => Za d (fun (_ : Unit) => some 0) kk 0) = some E1 ∧ (E1 = 0 → r = 0 ∧ Deep d) := by
  rw [r1, Option.bind_some]
  by_cases c3 : r = 0
  ·rw [if_neg (by simp [c3])]
   obtain ⟨e, he1, he2⟩ := check_l1 d hn (r2 c3).1 d.Nodes.length 0 (by omega)
   exact ⟨e, lim_add (d.Nodes.length + 1) fun m => he2 m, fun hz => ⟨c3, fun q hq => he1 hz q hq (Nat.zero_le _)⟩⟩
  ·rw [if_pos (by simp [c3])]
   exact ⟨r, rfl, fun hz => absurd hz c3⟩
 obtain ⟨E1, e1, e2⟩ := hE
 obtain ⟨e, he1, he2⟩ := check_l0 d hn E1 (fun (_ : Unit) => (Z1s d).bind fun r_1 => if (!decide (r_1 = 0)) then some r_1 else lim fun kk => Za d (fun (_ : Unit) => some 0) kk 0) e1 d.Nodes.length 0 (by omega)
 refine ⟨e, lim_add (d.Nodes.length + 1) fun m => he2 m, fun hz => ?_⟩
 obtain ⟨g1, g2⟩ := e2 (he1 hz).1
 obtain ⟨p1, p2, p3⟩ := r2 g1
 exact ⟨h0, hn, p1, p2, p3, g2, fun q h => (he1 hz).2 q h (Nat.zero_le _)⟩
end Go.Proofs.YtaejmblphhjccaaGreatDoorBv
/- A document that is right: the way up ends, and attributes are short. No program is in sight. -/
namespace Go.Proofs.YtaejmblphhjccaaGreatDoorBv
open Go
set_option linter.unusedSimpArgs false
set_option linter.unusedVariables false
/-- so many steps lead up to the root -/
def Hgt (d : TDoc) : Nat → Nat → Prop
 | 0, i => ∃ h : i < d.Nodes.length, d.Nodes[i].Parent < 0
 | n + 1, i => ∃ h : i < d.Nodes.length, ∃ j : Nat, d.Nodes[i].Parent = (j : Int) ∧ Hgt d n j
theorem up_hgt (d : TDoc) (hn : d.Nodes.length ≤ 200) (hp : ParOK d) : ∀ (c i many : Nat), i < d.Nodes.length → many + c = d.Nodes.length + 1 → ∃ r : Int, (∀ m, Z5 d (fun many1 => some many1) (m + c + 1) (i : Int) (many : Int) = some r) ∧ (r ≤ (d.Nodes.length : Int) → ∃ h, Hgt d h i)
 | 0, i, many, hi, hc => by
  refine ⟨many, fun m => ?_, fun h => by omega⟩
  rw [Z5, at_some hi, Option.bind_some, if_neg (by simp only [Bool.and_eq_true, decide_eq_true_eq]; omega)]
 | c + 1, i, many, hi, hc => by
  by_cases hpar : 0 ≤ d.Nodes[i].Parent
  ·have := hp i hi
   obtain ⟨j, ej⟩ : ∃ j : Nat, d.Nodes[i].Parent = j := ⟨d.Nodes[i].Parent.toNat, by omega⟩
   obtain ⟨r, hr, hh⟩ := up_hgt d hn hp c j (many + 1) (by omega) (by omega)
   refine ⟨r, fun m => ?_, fun h => ?_⟩
   ·rw [Z5, at_some hi, Option.bind_some, if_pos (by simp only [Bool.and_eq_true, decide_eq_true_eq]; omega), Option.bind_some, ej, wi_id (by omega) (by omega), show (many : Int) + 1 = ((many + 1 : Nat) : Int) by omega]
    exact hr m
   ·obtain ⟨n, hN⟩ := hh h
    exact ⟨n + 1, hi, j, ej, hN⟩
  ·refine ⟨many, fun m => ?_, fun _ => ⟨0, hi, by omega⟩⟩
   rw [Z5, at_some hi, Option.bind_some, if_neg (by simp only [Bool.and_eq_true, decide_eq_true_eq]; omega)]
theorem hgt_of {d : TDoc} (h : DocOK d) (i : Nat) (hi : i < d.Nodes.length) : ∃ n, Hgt d n i := by
 obtain ⟨r, hr, h2⟩ := up_hgt d h.many h.par (d.Nodes.length + 1) i 0 hi (by omega)
 obtain ⟨r', h3, _, h4⟩ := h.deep i hi
 have e : Z17 d (i : Int) = some r := by
  unfold Z17
  exact lim_add (d.Nodes.length + 1 + 1) fun m => hr m
 rw [e] at h3
 cases h3
 exact h2 h4
theorem hgt_lt {d : TDoc} : ∀ {n i : Nat}, Hgt d n i → i < d.Nodes.length
 | 0, _, ⟨h, _⟩ => h
 | _ + 1, _, ⟨h, _⟩ => h
theorem attrs_short (l : List TAttr) (hl : l.length ≤ 12) : ∀ (c i : Nat), i + c = l.length → (∀ m, Z4 l (fun _ => some 0) (m + c + 1) (i : Int) = some 0) → ∀ (q : Nat) (h : q < l.length), i ≤ q → l[q].Value.length ≤ 400
 | 0, i, hi, _, q, h, hq => by omega
 | c + 1, i, hi, hr, q, h, hq => by
  have hl' : i < l.length := by omega
  obtain ⟨b, hb⟩ := attrName_tot l[i].Name
  obtain ⟨f, hf⟩ := find_tot (l.take i) l[i].Name (by rw [List.length_take]; omega)
  obtain ⟨r2, hr2⟩ := attrs_loop l hl c (i + 1) (by omega)
  have go : ∀ m, Z4 l (fun _ => some 0) (m + (c + 1) + 1) (i : Int) = if (!b) then some 3 else if decide (400 < (l[i].Value.length : Int)) then some 2 else if decide (0 ≤ f) then some 3 else Z4 l (fun _ => some 0) (m + c + 1) ((i + 1 : Nat) : Int) := by
   intro m
   rw [Z4, if_pos (by simp only [decide_eq_true_eq]; omega), at_some hl', Option.bind_some, hb, Option.bind_some, sub_take (by omega), Option.bind_some, hf, Option.bind_some, wi_id (by omega) (by omega), show (i : Int) + 1 = ((i + 1 : Nat) : Int) by omega, show m + (c + 1) = m + c + 1 by omega]
  have h0 := hr 0
  rw [go] at h0
  split at h0
  ·cases h0
  ·split at h0
   ·cases h0
   ·rename_i hv
    split at h0
    ·cases h0
    ·rename_i hff
     by_cases hqi : q = i
     ·subst hqi
      simp only [decide_eq_true_eq] at hv
      omega
     ·refine attrs_short l hl c (i + 1) (by omega) (fun m => ?_) q h (by omega)
      rw [hr2]
      rw [hr2] at h0
      exact h0
theorem one_short {x : TNode} (h : Zd x = some 0) : ∀ a, a ∈ x.Attrs → a.Value.length ≤ 400 := by
 have j : ∀ v, Zv x v = some 0 → Zh x.Attrs = some 0 := by
  intro v hv
  unfold Zv at hv
  split at hv
  ·cases hv
  ·obtain ⟨r, hr, hv⟩ := Option.bind_eq_some_iff.1 hv
   split at hv
   ·rename_i hc
    cases hv
    simp at hc
   ·rename_i hc
    have : r = 0 := by simpa using hc
    rw [this] at hr
    exact hr
 have ha : Zh x.Attrs = some 0 := by
  unfold Zd at h
  split at h
  ·cases h
  ·split at h
   ·obtain ⟨r, _, h⟩ := Option.bind_eq_some_iff.1 h
    exact j _ h
   ·exact j _ h
 unfold Zh at ha
 split at ha
 ·cases ha
 ·rename_i hc
  have hl : x.Attrs.length ≤ 12 := by simp only [decide_eq_true_eq] at hc; omega
  obtain ⟨r, hr⟩ := attrs_loop x.Attrs hl x.Attrs.length 0 (by omega)
  have e : lim (fun kk => Z4 x.Attrs (fun (_ : Unit) => some 0) kk 0) = some r := lim_add (x.Attrs.length + 1) fun m => hr m
  rw [e] at ha
  cases ha
  intro a hm
  obtain ⟨q, hq, rfl⟩ := List.getElem_of_mem hm
  exact attrs_short x.Attrs hl x.Attrs.length 0 (by omega) hr q hq (by omega)
theorem attr_len {x : TNode} (h : Zd x = some 0) : x.Attrs.length ≤ 12 := by
 have j : ∀ v, Zv x v = some 0 → Zh x.Attrs = some 0 := by
  intro v hv
  unfold Zv at hv
  split at hv
  ·cases hv
  ·obtain ⟨r, hr, hv⟩ := Option.bind_eq_some_iff.1 hv
   split at hv
   ·rename_i hc
    cases hv
    simp at hc
   ·rename_i hc
    have : r = 0 := by simpa using hc
    rw [this] at hr
    exact hr
 have ha : Zh x.Attrs = some 0 := by
  unfold Zd at h
  split at h
  ·cases h
  ·split at h
   ·obtain ⟨r, _, h⟩ := Option.bind_eq_some_iff.1 h
    exact j _ h
   ·exact j _ h
 unfold Zh at ha
 split at ha
 ·cases ha
 ·rename_i hc
  simp only [decide_eq_true_eq] at hc; omega
end Go.Proofs.YtaejmblphhjccaaGreatDoorBv
/- The law of regions, over plain values. No program is in sight. -/
namespace Go.Proofs.YtaejmblphhjccaaGreatDoorBv
open Go
set_option linter.unusedSimpArgs false
set_option linter.unusedVariables false
abbrev REG : List UInt8 := [114, 101, 103, 105, 111, 110]
noncomputable def plainS (s : List UInt8) : Bool := match cutS s with
 | [t] => decide (t.Kind = 1) && decide (t.Raw = s) && decide (t.Value = s)
 | _ => false
theorem plain_ne {s : List UInt8} (h : plainS s = true) : s ≠ [] := by
 rintro rfl
 have : cutS [] = [] := rfl
 unfold plainS at h
 rw [this] at h
 cases h
theorem name_eq' {s : List UInt8} (h : s.length ≤ 400) : Z2d s = some (plainS s) := by
 unfold Z2d plainS
 rw [cut_eq (by omega), Option.bind_some]
 generalize cutS s = l
 match l with
 | [] => rfl
 | [t] =>
  have a0 : at? [t] 0 = some t := rfl
  rw [if_pos (by simp), a0, Option.bind_some]
  unfold Z1p
  by_cases h1 : t.Kind = 1
  ·rw [if_pos (by simpa using h1), Option.bind_some]
   by_cases h2 : t.Raw = s
   ·rw [if_pos (by simpa using h2), Option.bind_some]; simp [h1, h2]
   ·rw [if_neg (by simpa using h2)]; simp [h2]
  ·rw [if_neg (by simpa using h1)]; simp [h1]
 | a :: b :: r => rw [if_neg (by simp; omega)]; rfl
theorem plain_eq {s : List UInt8} (h : s.length ≤ 400) : Z41 s = some (plainS s) := by
 unfold Z41 plainS
 rw [Tokens_eq (by omega), Option.bind_some]
 generalize cutS s = l
 match l with
 | [] => rfl
 | [t] =>
  have a0 : at? [t] 0 = some t := rfl
  rw [if_pos (by simp), a0, Option.bind_some]
  unfold Z1y
  by_cases h1 : t.Kind = 1
  ·rw [if_pos (by simpa using h1), Option.bind_some]
   by_cases h2 : t.Value = s
   ·rw [if_pos (by simpa using h2), Option.bind_some]; simp [h1, h2]
   ·rw [if_neg (by simpa using h2)]; simp [h2]
  ·rw [if_neg (by simpa using h1)]; simp [h1]
 | a :: b :: r => rw [if_neg (by simp; omega)]; rfl
/-! ### an attribute by its name -/
def isReg (a : TAttr) : Bool := decide (a.Name = REG)
theorem idx_loop (l : List TAttr) (hl : l.length ≤ 12) : ∀ (N i : Nat), l.length - i < N → i ≤ l.length → Zx l (fun _ => some (-1)) N (i : Int) = some (if (l.drop i).any isReg then ((i + (l.drop i).findIdx isReg : Nat) : Int) else -1)
 | 0, i, hN, hi => by omega
 | N + 1, i, hN, hi => by
  rw [Zx]
  by_cases h : i < l.length
  ·have e := List.drop_eq_getElem_cons h
   rw [if_pos (by simp only [decide_eq_true_eq]; omega), at_some h, Option.bind_some]
   show (if isReg l[i] = true then _ else _) = _
   cases hb : isReg l[i] with
   | true => rw [if_pos rfl, e, List.any_cons, List.findIdx_cons, hb]; simp
   | false =>
    rw [if_neg (by simp), wi_id (by omega) (by omega), show (i : Int) + 1 = ((i + 1 : Nat) : Int) by omega, idx_loop l hl N (i + 1) (by omega) (by omega), e, List.any_cons, List.findIdx_cons, hb]
    simp only [Bool.false_or, cond_false]
    split
    ·congr 1; omega
    ·rfl
  ·rw [if_neg (by simp only [decide_eq_true_eq]; omega), List.drop_of_length_le (by omega)]
   rfl
theorem find_idx : ∀ (l : List TAttr), l.any isReg = true → ∃ h : l.findIdx isReg < l.length, l.find? isReg = some (l[l.findIdx isReg])
 | [], h => by cases h
 | a :: r, h => by
  rw [List.any_cons] at h
  cases hb : isReg a with
  | true => simp [List.findIdx_cons, List.find?_cons, hb]
  | false =>
   rw [hb, Bool.false_or] at h
   obtain ⟨h1, h2⟩ := find_idx r h
   simp only [List.findIdx_cons, List.find?_cons, hb, cond_false, h2]
   exact ⟨Nat.succ_lt_succ h1, by simp⟩
theorem find_none : ∀ (l : List TAttr), l.any isReg = false → l.find? isReg = none
 | [], h => rfl
 | a :: r, h => by
  rw [List.any_cons, Bool.or_eq_false_iff] at h
  rw [List.find?_cons, h.1]
  exact find_none r h.2
noncomputable def regS (x : TNode) : List UInt8 := if x.Kind = 2 then (match x.Attrs.find? isReg with | some a => if plainS a.Value then a.Value else [] | none => []) else []
theorem region_eq {x : TNode} (h : Zd x = some 0) : Z3f x = some (regS x) := by
 have h12 := attr_len h
 have h400 := one_short h
 unfold Z3f Z4c regS
 have e : lim (fun kk => Zx x.Attrs (fun _ => some (-1)) kk 0) = some (if x.Attrs.any isReg then ((x.Attrs.findIdx isReg : Nat) : Int) else -1) := by
  refine lim_eq (x.Attrs.length + 1) fun k hk => ?_
  have := idx_loop x.Attrs h12 k 0 (by omega) (by omega)
  rw [List.drop_zero, Nat.zero_add] at this
  exact this
 rw [e, Option.bind_some]
 unfold Z3e
 cases ha : x.Attrs.any isReg with
 | false =>
  rw [find_none _ ha, if_neg (c := false = true) (by simp), if_pos (by simp), if_pos rfl]
  by_cases hk : x.Kind = 2 <;> simp [hk]
 | true =>
  obtain ⟨h1, h2⟩ := find_idx _ ha
  rw [h2, if_pos (c := true = true) rfl]
  by_cases hk : x.Kind = 2
  ·rw [if_neg (by simp [hk]), at_some h1, Option.bind_some, name_eq' (h400 _ (List.getElem_mem h1)), Option.bind_some, if_pos hk]
   by_cases hp : plainS x.Attrs[x.Attrs.findIdx isReg].Value = true
   ·simp [hp]
   ·simp [hp]
  ·rw [if_pos (by simp [hk]), if_neg hk]
   rfl
theorem attr_loop (x : TNode) (hl : x.Attrs.length ≤ 12) : ∀ (N i : Nat), x.Attrs.length - i < N → i ≤ x.Attrs.length → Zy x REG (fun _ => some ([], false)) N (i : Int) = some (match (x.Attrs.drop i).find? isReg with | some a => (a.Value, true) | none => ([], false))
 | 0, i, hN, hi => by omega
 | N + 1, i, hN, hi => by
  rw [Zy]
  by_cases h : i < x.Attrs.length
  ·rw [if_pos (by simp only [decide_eq_true_eq]; omega), at_some h, Option.bind_some, List.drop_eq_getElem_cons h, List.find?_cons]
   show (if isReg x.Attrs[i] = true then _ else _) = _
   cases hb : isReg x.Attrs[i] with
   | true => rw [if_pos rfl]; rfl
   | false =>
    rw [if_neg (by simp), wi_id (by omega) (by omega), show (i : Int) + 1 = ((i + 1 : Nat) : Int) by omega]
    exact attr_loop x hl N (i + 1) (by omega) (by omega)
  ·rw [if_neg (by simp only [decide_eq_true_eq]; omega), List.drop_of_length_le (by omega)]
   rfl
/-! ### owners -/
noncomputable def ownS (d : TDoc) : Nat → Nat → List UInt8
 | 0, i => match d.Nodes[i]? with | some x => regS x | none => []
 | n + 1, i => match d.Nodes[i]? with | some x => if regS x = [] then ownS d n x.Parent.toNat else regS x | none => []
theorem owner_loop (d : TDoc) (hd : DocOK d) : ∀ (n i : Nat), Hgt d n i → ∀ m, Zk d (fun _ => some []) (m + n + 2) (i : Int) = some (ownS d n i)
 | 0, i, hh, m => by
  obtain ⟨h, hp⟩ := hh
  have h1 := (hd.one i h).1
  rw [Zk, if_pos (by simp), at_some h, Option.bind_some, region_eq h1, Option.bind_some]
  simp only [ownS, List.getElem?_eq_getElem h]
  by_cases hr : regS d.Nodes[i] = []
  ·rw [if_neg (by simp [hr]), Option.bind_some, show m + 0 + 1 = m + 1 from rfl, Zk, if_neg (by simpa using hp), hr]
  ·rw [if_pos (by simpa using hr)]
 | n + 1, i, hh, m => by
  obtain ⟨h, j, hj, hn⟩ := hh
  have h1 := (hd.one i h).1
  rw [Zk, if_pos (by simp), at_some h, Option.bind_some, region_eq h1, Option.bind_some]
  simp only [ownS, List.getElem?_eq_getElem h]
  by_cases hr : regS d.Nodes[i] = []
  ·rw [if_neg (by simp [hr]), Option.bind_some, hj, if_pos hr, Int.toNat_natCast, show m + (n + 1) + 1 = m + n + 2 by omega]
   exact owner_loop d hd n j hn m
  ·rw [if_pos (by simpa using hr), if_neg hr]
theorem ref_loop (d : TDoc) (hd : DocOK d) : ∀ (n i : Nat), Hgt d n i → ∀ m, Z8 (m + n + 2) d (i : Int) = some (ownS d n i) := by
 have step : ∀ (i : Nat) (h : i < d.Nodes.length) (k : Nat), Z8 (k + 1) d (i : Int) = if regS d.Nodes[i] = [] then (Z8 k d d.Nodes[i].Parent) else some (regS d.Nodes[i]) := by
  intro i h k
  have h1 := (hd.one i h).1
  have h12 := attr_len h1
  have h400 := one_short h1
  have j3 : Z2v d (i : Int) (Z8 k) = Z8 k d d.Nodes[i].Parent := by
   unfold Z2v
   rw [at_some h, Option.bind_some]
   cases Z8 k d d.Nodes[i].Parent <;> rfl
  rw [Z8, if_neg (by simp)]
  unfold Z2l
  rw [at_some h, Option.bind_some, Option.bind_some]
  unfold regS
  by_cases hk : d.Nodes[i].Kind = 2
  ·rw [if_pos (c := decide (d.Nodes[i].Kind = 2) = true) (by simpa using hk), if_pos (c := d.Nodes[i].Kind = 2) hk]
   unfold Z4f
   have e : lim (fun kk => Zy d.Nodes[i] REG (fun _ => some ([], false)) kk 0) = some (match d.Nodes[i].Attrs.find? isReg with | some a => (a.Value, true) | none => ([], false)) := by
    refine lim_eq (d.Nodes[i].Attrs.length + 1) fun k hk => ?_
    have := attr_loop d.Nodes[i] h12 k 0 (by omega) (by omega)
    rw [List.drop_zero] at this
    exact this
   rw [at_some h, Option.bind_some, e, Option.bind_some]
   unfold Z42
   cases hf : d.Nodes[i].Attrs.find? isReg with
   | none => simp [j3]
   | some a =>
    have hm := List.mem_of_find?_eq_some hf
    simp only [if_true]
    rw [plain_eq (h400 a hm), Option.bind_some]
    cases hp : plainS a.Value with
    | false => simp [j3]
    | true => simp [plain_ne hp]
  ·rw [if_neg (c := decide (d.Nodes[i].Kind = 2) = true) (by simpa using hk), if_neg (c := d.Nodes[i].Kind = 2) hk, if_pos rfl, j3]
 intro n
 induction n with
 | zero =>
  intro i hh m
  obtain ⟨h, hp⟩ := hh
  rw [show m + 0 + 2 = (m + 1) + 1 from rfl, step i h]
  simp only [ownS, List.getElem?_eq_getElem h]
  by_cases hr : regS d.Nodes[i] = []
  ·rw [if_pos hr, Z8, if_pos (by simpa using hp), hr]
  ·rw [if_neg hr]
 | succ n ih =>
  intro i hh m
  obtain ⟨h, j, hj, hn⟩ := hh
  rw [show m + (n + 1) + 2 = (m + n + 2) + 1 by omega, step i h]
  simp only [ownS, List.getElem?_eq_getElem h]
  by_cases hr : regS d.Nodes[i] = []
  ·rw [if_pos hr, if_pos hr, hj, Int.toNat_natCast]
   exact ih j hn m
  ·rw [if_neg hr, if_neg hr]
theorem owner_both {d : TDoc} (hd : DocOK d) (i : Nat) (hi : i < d.Nodes.length) : ∃ o, Z2j d (i : Int) = some o ∧ Z43 d (i : Int) = some o := by
 obtain ⟨n, hn⟩ := hgt_of hd i hi
 refine ⟨ownS d n i, ?_, ?_⟩
 ·unfold Z2j
  exact lim_add (n + 2) fun m => owner_loop d hd n i hn m
 ·unfold Z43
  exact lim_add (n + 2) fun m => ref_loop d hd n i hn m
noncomputable def oS (d : TDoc) (i : Nat) : List UInt8 := match d.Nodes[i]? with
 | some x => if x.Kind = 2 then (Z2j d (i : Int)).getD [] else []
 | none => []
theorem owners_loop (d : TDoc) (hd : DocOK d) (K : List (List UInt8) → Option (List (List UInt8) × Int)) : ∀ (c i : Nat) (out : List (List UInt8)), i + c = d.Nodes.length → out.length = d.Nodes.length → (∀ j, j < i → out[j]? = some (oS d j)) → (∀ j, i ≤ j → j < d.Nodes.length → out[j]? = some []) →
  ∃ out', (∀ m, Zb d K (m + c + 1) out (i : Int) = K out') ∧ out'.length = d.Nodes.length ∧ ∀ j, j < d.Nodes.length → out'[j]? = some (oS d j)
 | 0, i, out, hi, hl, h1, h2 => by
  refine ⟨out, fun m => ?_, hl, fun j hj => h1 j (by omega)⟩
  rw [Zb, if_neg (by simp only [decide_eq_true_eq]; omega)]
 | c + 1, i, out, hi, hl, h1, h2 => by
  have h200 := hd.many
  have h : i < d.Nodes.length := by omega
  obtain ⟨o, ho, _⟩ := owner_both hd i h
  have hw : wi ((i : Int) + 1) = ((i + 1 : Nat) : Int) := by rw [wi_id (by omega) (by omega)]; omega
  have hoS : oS d i = if d.Nodes[i].Kind = 2 then o else [] := by
   unfold oS
   rw [List.getElem?_eq_getElem h, ho]
   rfl
  by_cases hk : d.Nodes[i].Kind = 2
  ·obtain ⟨out', a1, a2, a3⟩ := owners_loop d hd K c (i + 1) (out.set i o) (by omega) (by rw [List.length_set]; exact hl) (fun j hj => by
    by_cases hji : j = i
    ·subst hji; rw [List.getElem?_set_self (by omega), hoS, if_pos hk]
    ·rw [List.getElem?_set_ne (by omega)]; exact h1 j (by omega)) (fun j hj hjl => by rw [List.getElem?_set_ne (by omega)]; exact h2 j (by omega) hjl)
   refine ⟨out', fun m => ?_, a2, a3⟩
   rw [Zb, if_pos (by simp only [decide_eq_true_eq]; omega), at_some h, Option.bind_some, if_pos (by simpa using hk), ho, Option.bind_some, at_some (show i < out.length by omega), Option.bind_some]
   unfold Z2k
   rw [hw, Int.toNat_natCast, show m + (c + 1) = m + c + 1 by omega]
   exact a1 m
  ·obtain ⟨out', a1, a2, a3⟩ := owners_loop d hd K c (i + 1) out (by omega) hl (fun j hj => by
    by_cases hji : j = i
    ·subst hji; rw [h2 j (by omega) h, hoS, if_neg hk]
    ·exact h1 j (by omega)) (fun j hj hjl => h2 j (by omega) hjl)
   refine ⟨out', fun m => ?_, a2, a3⟩
   rw [Zb, if_pos (by simp only [decide_eq_true_eq]; omega), at_some h, Option.bind_some, if_neg (by simpa using hk)]
   unfold Z2k
   rw [hw, show m + (c + 1) = m + c + 1 by omega]
   exact a1 m
theorem law_loop (d : TDoc) (hd : DocOK d) (out : List (List UInt8)) (hl : out.length = d.Nodes.length) (ho : ∀ j, j < d.Nodes.length → out[j]? = some (oS d j)) (K : List (List UInt8) → Option Bool) : ∀ (N i : Nat), d.Nodes.length - i < N → i ≤ d.Nodes.length → Z12 d K N out (i : Int) = K out
 | 0, i, hN, hi => by omega
 | N + 1, i, hN, hi => by
  have h200 := hd.many
  rw [Z12]
  by_cases h : i < d.Nodes.length
  ·obtain ⟨o, ho1, ho2⟩ := owner_both hd i h
   have hw : wi ((i : Int) + 1) = ((i + 1 : Nat) : Int) := by rw [wi_id (by omega) (by omega)]; omega
   have hoS : oS d i = if d.Nodes[i].Kind = 2 then o else [] := by
    unfold oS
    rw [List.getElem?_eq_getElem h, ho1]
    rfl
   have hat : at? out (i : Int) = some (oS d i) := by rw [at_nat]; exact ho i h
   unfold Z2l
   rw [if_pos (by simp only [decide_eq_true_eq]; omega), at_some h, Option.bind_some, Option.bind_some]
   unfold Z44
   rw [hat, hw]
   by_cases hk : d.Nodes[i].Kind = 2
   ·rw [if_pos (by simpa using hk), ho2, Option.bind_some, Option.bind_some, hoS, if_pos hk, if_neg (by simp)]
    exact law_loop d hd out hl ho K N (i + 1) (by omega) (by omega)
   ·rw [if_neg (by simpa using hk), Option.bind_some, hoS, if_neg hk, if_neg (by simp)]
    exact law_loop d hd out hl ho K N (i + 1) (by omega) (by omega)
  ·rw [if_neg (by simp only [decide_eq_true_eq]; omega)]
theorem within_eq : Z39 [97, 123, 125] [49] = some ([], 3) := by
 unfold Z39
 have h : cutS [49] = [⟨7, [49], [], 1000⟩] := by decide +kernel
 have h2 : plainS [49] = false := by
  unfold plainS
  rw [h]
  decide
 rw [name_eq' (by decide), h2, Option.bind_some, if_pos (by simp)]
theorem pureLookOwners : PureLookOwners := by
 intro d hd0
 have hk : ∀ x, x ∈ d.Nodes → x.Kids.length ≤ 140737488355328 := by
  intro x hx
  have := (hd0.1.2 x hx).2.2.2.2.2.1
  unfold reachBytes at this
  omega
 obtain ⟨e, he, hok⟩ := check_tot d hk
 unfold Z4o Z4e
 rw [within_eq, Option.bind_some, he, Option.bind_some]
 by_cases h0 : e = 0
 ·have hd := hok h0
  have h200 := hd.many
  subst h0
  rw [if_neg (by simp), mkl_some (by omega) (Int.le_refl _) (by omega) (by omega), Option.bind_some, Int.toNat_natCast]
  obtain ⟨out, a1, a2, a3⟩ := owners_loop d hd (fun out1 => some (out1, 0)) d.Nodes.length 0 (List.replicate d.Nodes.length []) (by omega) (by simp) (fun j hj => by omega) (fun j _ hj => by rw [List.getElem?_replicate, if_pos hj])
  have el : lim (fun kk => Zb d (fun out1 => some (out1, 0)) kk (List.replicate d.Nodes.length []) 0) = some (out, 0) := lim_add (d.Nodes.length + 1) fun m => a1 m
  rw [el, Option.bind_some, Option.bind_some, if_neg (by simp), if_neg (by simp)]
  refine lim_eq (d.Nodes.length + 1) fun k hk => ?_
  refine (law_loop d hd out a2 a3 _ k 0 (by omega) (by omega)).trans ?_
  rw [a2]
  simp
 ·rw [if_pos (by simpa using h0), Option.bind_some, Option.bind_some, if_neg (by simp), if_pos (by simpa using h0)]
  simp
end Go.Proofs.YtaejmblphhjccaaGreatDoorBv
-- squeezed
