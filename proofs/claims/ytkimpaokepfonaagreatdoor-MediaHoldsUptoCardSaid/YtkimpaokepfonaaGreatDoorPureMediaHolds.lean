/- The law MediaHolds, over plain values, in parts. No program is in sight. -/
import Derived.Test.YtkimpaokepfonaaGreatDoorShMediaHolds
import Derived.Test.YtkimpaokepfonaaGreatDoorBv23
import Derived.Test.YtkimpaokepfonaaGreatDoorBv30
import Derived.Test.YtkimpaokepfonaaGreatDoorBv42
import Derived.Test.YtkimpaokepfonaaGreatDoorBv36
import Derived.WalkKit
import Derived.Test.YtkimpaokepfonaaGreatDoorBv31
import Derived.Lib.ItoaLen
/- Numbers at the beginning of a text: the program's and the document's, as one plain function. No program is in sight. -/
namespace Go.Proofs.YtkimpaokepfonaaGreatDoorBv
open Go
set_option linter.unusedSimpArgs false
set_option linter.unusedVariables false
def isD (c : UInt8) : Bool := decide (48 ≤ c.toNat) && decide (c.toNat ≤ 57)
def addD (n : Nat) (c : UInt8) : Nat := min (10 * n + (c.toNat - 48)) 1000000000
/-- what is behind a sign -/
def fromN (s : List UInt8) : Nat := match s with
 | [] => 0
 | c :: _ => if c = 43 ∨ c = 45 then 1 else 0
def fracN (l : List UInt8) : List UInt8 := match l with
 | [] => []
 | c :: r => if c = 46 then r.takeWhile isD else []
def thousN (n : Nat) (f : List UInt8) : Nat := addD (addD (addD n (f.getD 0 48)) (f.getD 1 48)) (f.getD 2 48)
def numS (s : List UInt8) : Int × Int :=
 let w := (s.drop (fromN s)).takeWhile isD
 let f := fracN ((s.drop (fromN s)).drop w.length)
 if w.length + f.length = 0 then (0, 0)
 else
  let n := thousN (w.foldl addD 0) f
  (if s.head? = some 45 then -(n : Int) else n, ((fromN s + w.length + if f.length = 0 then 0 else 1 + f.length : Nat) : Int))

theorem tens_isD (c : UInt8) : ([48, 49, 50, 51, 52, 53, 54, 55, 56, 57] : List UInt8).contains c = isD c := by
 have := u8_all (p := fun c => ([48, 49, 50, 51, 52, 53, 54, 55, 56, 57] : List UInt8).contains c == isD c) (by decide +kernel) c
 simpa using this
theorem digits_eq {s : List UInt8} (hs : s.length ≤ 140737488355328) : Z1p s = some ((s.takeWhile isD).length : Int) := by
 have h1 : Z28 s [48, 49, 50, 51, 52, 53, 54, 55, 56, 57] = some (s.dropWhile isD) := by
  show trimLeft? _ _ = _
  unfold trimLeft?
  rw [if_pos (by decide)]
  unfold Lib.trimLeftS
  congr 2
  funext c
  exact tens_isD c
 unfold Z1p
 have := dropWhile_take isD s
 rw [h1, Option.bind_some, wi_id (by omega) (by omega)]
 congr 1
 omega
theorem fn1_eq {c : UInt8} {n : Nat} (hc : isD c = true) (hn : n ≤ 1000000000) : Z19 (c.toNat : Int) (n : Int) = some ((addD n c : Nat) : Int) := by
 simp only [isD, Bool.and_eq_true, decide_eq_true_eq] at hc
 unfold Z19 addD
 rw [wr_u8, wr_i64, wi_id (n := 10 * (n : Int)) (by omega) (by omega), wi_id (n := ((c.toNat : Int) - 48) % 256) (by omega) (by omega), wi_id (by omega) (by omega)]
 unfold mn
 congr 1
 split <;> omega
theorem addD_le (n : Nat) (c : UInt8) : addD n c ≤ 1000000000 := Nat.min_le_right _ _
theorem num_l0 (r s : List UInt8) (fr r1 be : Int) (K : Int → Option (Int × Int)) (hl : r.length ≤ 140737488355328) (hd : ∀ c ∈ r, isD c = true) : ∀ (d i n : Nat), i + d = r.length → n ≤ 1000000000 → ∀ m,
  Zo r s fr r1 be K (m + d + 1) (n : Int) (i : Int) = K (((r.drop i).foldl addD n : Nat) : Int)
 | 0, i, n, hi, hn, m => by
  rw [Zo, if_neg (by simp only [decide_eq_true_eq, ints_length]; omega), List.drop_eq_nil_of_le (by omega)]
  rfl
 | d + 1, i, n, hi, hn, m => by
  have h : i < r.length := by omega
  rw [Zo, if_pos (by simp only [decide_eq_true_eq, ints_length]; omega), at_nat, ints_get, List.getElem?_eq_getElem h, Option.map_some, Option.bind_some, fn1_eq (hd _ (List.getElem_mem h)) hn, Option.bind_some,
   wi_id (by omega) (by omega), show (i : Int) + 1 = ((i + 1 : Nat) : Int) by omega, show m + (d + 1) = m + d + 1 by omega, num_l0 r s fr r1 be K hl hd d (i + 1) _ (by omega) (addD_le _ _) m]
  rw [List.drop_eq_getElem_cons h, List.foldl_cons]
theorem foldD_le (l : List UInt8) : ∀ n, n ≤ 1000000000 → l.foldl addD n ≤ 1000000000 := by
 induction l with
 | nil => intro n h; exact h
 | cons c r ih => intro n _; exact ih _ (addD_le _ _)
theorem isD48 : isD 48 = true := by decide
theorem frac_step {f : List UInt8} {i n : Nat} (s : List UInt8) (e : Int) (K : Int → Option (Int × Int)) (k : Nat) (hf : ∀ c ∈ f, isD c = true) (hn : n ≤ 1000000000) (hi : i < 3) :
  Z7 f s e K (k + 1) (n : Int) (i : Int) = Z7 f s e K k ((addD n (f.getD i 48) : Nat) : Int) ((i + 1 : Nat) : Int) := by
 rw [Z7, if_pos (by simp only [decide_eq_true_eq]; omega)]
 by_cases h : i < f.length
 ·rw [if_pos (by simp only [decide_eq_true_eq]; omega), at_some h, Option.bind_some, fn1_eq (hf _ (List.getElem_mem h)) hn, Option.bind_some]
  unfold Z1q
  rw [wi_id (by omega) (by omega), List.getD_eq_getElem?_getD, List.getElem?_eq_getElem h]
  rfl
 ·rw [if_neg (by simp only [decide_eq_true_eq]; omega), show (48 : Int) = ((48 : UInt8).toNat : Int) from rfl, fn1_eq isD48 hn, Option.bind_some]
  unfold Z1q
  rw [wi_id (by omega) (by omega), List.getD_eq_getElem?_getD, List.getElem?_eq_none (by omega)]
  rfl
theorem num_l1 {f : List UInt8} {n : Nat} (s : List UInt8) (e : Int) (K : Int → Option (Int × Int)) (hf : ∀ c ∈ f, isD c = true) (hn : n ≤ 1000000000) : limF (fun kk => Z7 f s e K kk (n : Int) 0) = K ((thousN n f : Nat) : Int) := by
 refine limF_add 4 fun m => ?_
 show Z7 f s e K (m + 3 + 1) (n : Int) ((0 : Nat) : Int) = _
 rw [frac_step s e K _ hf hn (by omega)]
 show Z7 f s e K (m + 2 + 1) _ _ = _
 rw [frac_step s e K _ hf (addD_le _ _) (by omega)]
 show Z7 f s e K (m + 1 + 1) _ _ = _
 rw [frac_step s e K _ hf (addD_le _ _) (by omega), Z7, if_neg (by decide)]
 rfl
theorem fold_take (l : List UInt8) : ∀ c ∈ l.takeWhile isD, isD c = true := by
 exact List.all_eq_true.1 List.all_takeWhile
theorem num_end {s : List UInt8} {e : Int} (h : s ≠ []) {n : Nat} {f : List UInt8} (hf : ∀ c ∈ f, isD c = true) (hn : n ≤ 1000000000) : Z1r s (n : Int) e f = some (if s.head? = some 45 then -((thousN n f : Nat) : Int) else ((thousN n f : Nat) : Int), e) := by
 unfold Z1r
 rw [num_l1 s e _ hf hn]
 match s, h with
 | c :: r, _ =>
  have h0 : at? (c :: r) 0 = some c := rfl
  have hle : thousN n f ≤ 1000000000 := addD_le _ _
  rw [h0, Option.bind_some]
  unfold Z2d
  by_cases hc : c = 45
  ·subst hc
   rw [if_pos (show decide (((45 : UInt8).toNat : Int) = 45) = true by decide), if_pos (show (45 :: r).head? = some 45 from rfl), wi_id (by omega) (by omega)]
   congr 2
   omega
  ·rw [if_neg (by simp only [decide_eq_true_eq]; intro e; exact hc (UInt8.toNat_inj.1 (by simpa using (by omega : c.toNat = 45)))), if_neg (by simpa using hc)]
theorem hasPrefix1 (l : List UInt8) (c : UInt8) : Z11 l [c] = some (decide (l.head? = some c)) := by
 unfold Z11 Z1k Z1j
 cases l with
 | nil => simp
 | cons d r =>
  rw [if_pos (by simp; omega)]
  have : sub? (d :: r) 0 (([c] : List UInt8).length : Int) = some [d] := by
   have := sub_take (l := d :: r) (b := 1) (by simp)
   simpa using this
  rw [this, Option.bind_some, Option.bind_some]
  simp
theorem isD46 : isD 46 = false := by decide
theorem num_j4 {s : List UInt8} (hs : s.length ≤ 140737488355328) {a : Nat} (ha : a ≤ s.length) (w f : List UInt8) (hw : w = (s.drop a).takeWhile isD) (hf : f = fracN ((s.drop a).drop w.length)) :
  Z1a (w.length : Int) s (a : Int) (f.length : Int) = some (if w.length + f.length = 0 then (0, 0) else
   (if s.head? = some 45 then -((thousN (w.foldl addD 0) f : Nat) : Int) else ((thousN (w.foldl addD 0) f : Nat) : Int), ((a + w.length + if f.length = 0 then 0 else 1 + f.length : Nat) : Int))) := by
 have hwl : w.length ≤ s.length - a := by
  have := dropWhile_take isD (s.drop a)
  rw [← hw, List.length_drop] at this
  omega
 have hfl : f.length ≠ 0 → 1 + f.length ≤ s.length - a - w.length ∧ (((s.drop a).drop w.length).drop 1).take f.length = f := by
  intro h0
  unfold fracN at hf
  split at hf
  ·subst hf; exact absurd rfl h0
  ·rename_i c r hr
   split at hf
   ·have h1 := congrArg List.length hr
    simp only [List.length_drop, List.length_cons] at h1
    have h2 := dropWhile_take isD r
    refine ⟨by rw [hf]; omega, ?_⟩
    rw [hr, hf]
    exact take_takeWhile isD r
   ·subst hf; exact absurd rfl h0
 have hdf : ∀ c ∈ f, isD c = true := by
  intro c hc
  rw [hf] at hc
  unfold fracN at hc
  split at hc
  ·cases hc
  ·split at hc
   ·exact fold_take _ _ hc
   ·cases hc
 have hdw : ∀ c ∈ w, isD c = true := by rw [hw]; exact fold_take _
 unfold Z1a
 have hfl2 : f.length ≤ s.length := by
  by_cases h : f.length = 0
  ·omega
  ·have := (hfl h).1; omega
 rw [wi_id (n := (w.length : Int) + f.length) (by omega) (by omega)]
 by_cases h0 : w.length + f.length = 0
 ·rw [if_pos (by simp only [decide_eq_true_eq]; omega), if_pos h0]
 ·have hne : s ≠ [] := by
   rintro rfl
   have h1 : w.length = 0 := by simpa using hwl
   by_cases h : f.length = 0
   ·omega
   ·have := (hfl h).1; simp at this
  rw [if_neg (by simp only [decide_eq_true_eq]; omega), if_neg h0, wi_id (n := (a : Int) + w.length) (by omega) (by omega), show (a : Int) + w.length = ((a + w.length : Nat) : Int) by omega, sub_nat (by omega) (by omega), Option.bind_some]
  have e1 : (s.take (a + w.length)).drop a = w := by
   rw [List.drop_take, show a + w.length - a = w.length by omega]
   have h := take_takeWhile isD (s.drop a)
   rw [← hw] at h
   exact h
  rw [e1]
  refine (limF_add (w.length + 1) fun m => ?_)
  have := num_l0 w s (a : Int) (w.length : Int) (f.length : Int)
  rw [← Nat.add_assoc]
  refine ((num_l0 w s (a : Int) (w.length : Int) (f.length : Int) _ (by omega) hdw w.length 0 0 (by omega) (by omega) m)).trans ?_
  rw [List.drop_zero]
  have hfd := foldD_le w 0 (by omega)
  by_cases hf0 : f.length = 0
  ·rw [if_neg (by simp only [decide_eq_true_eq]; omega), List.eq_nil_of_length_eq_zero hf0, num_end hne (fun c hc => by cases hc) hfd]
   simp
  ·have h3 := hfl hf0
   rw [if_pos (by simp only [decide_eq_true_eq]; omega), wi_id (n := ((a + w.length : Nat) : Int) + 1) (by omega) (by omega), wi_id (n := ((a + w.length : Nat) : Int) + 1 + f.length) (by omega) (by omega), wi_id (n := (1 : Int) + f.length) (by omega) (by omega), wi_id (by omega) (by omega),
    show ((a + w.length : Nat) : Int) + 1 = ((a + w.length + 1 : Nat) : Int) by omega, show ((a + w.length + 1 : Nat) : Int) + f.length = ((a + w.length + 1 + f.length : Nat) : Int) by omega, sub_nat (by omega) (by omega), Option.bind_some]
   have e2 : (s.take (a + w.length + 1 + f.length)).drop (a + w.length + 1) = f := by
    rw [List.drop_take, show a + w.length + 1 + f.length - (a + w.length + 1) = f.length by omega]
    have := h3.2
    rwa [List.drop_drop, List.drop_drop] at this
   rw [e2, num_end hne hdf hfd, if_neg hf0]
   congr 2
   try omega
theorem Number_eq {s : List UInt8} (hs : s.length ≤ 140737488355328) : Z2e s = some (numS s) := by
 have main : ∀ a : Nat, a = fromN s → a ≤ s.length → Z1s s (a : Int) = some (numS s) := by
  intro a hfrom ha
  obtain ⟨w, hw⟩ : ∃ w, w = (s.drop a).takeWhile isD := ⟨_, rfl⟩
  have hwl : w.length ≤ s.length - a := by
   have := dropWhile_take isD (s.drop a)
   rw [← hw, List.length_drop] at this
   omega
  unfold Z1s
  rw [sub_drop ha, Option.bind_some, digits_eq (by rw [List.length_drop]; omega), Option.bind_some, ← hw, wi_id (by omega) (by omega), show (a : Int) + w.length = ((a + w.length : Nat) : Int) by omega, sub_drop (by omega), Option.bind_some, hasPrefix1, Option.bind_some]
  have e0 : s.drop (a + w.length) = (s.drop a).drop w.length := by rw [List.drop_drop]
  have fin : ∀ f, f = fracN ((s.drop a).drop w.length) → Z1a (w.length : Int) s (a : Int) (f.length : Int) = some (numS s) := by
   intro f hf
   rw [num_j4 hs ha w f hw hf]
   unfold numS
   rw [← hfrom, ← hw]
   simp only [← hf]
  rw [e0]
  cases hr : (s.drop a).drop w.length with
  | nil =>
   rw [if_neg (by simp)]
   refine fin [] ?_
   rw [hr]; rfl
  | cons c r =>
   by_cases hc : c = 46
   ·subst hc
    rw [if_pos (by simp), show (1 : Int) = ((1 : Nat) : Int) from rfl, sub_drop (by simp), Option.bind_some, digits_eq (by
     have := congrArg List.length hr
     simp only [List.length_drop, List.length_cons] at this ⊢
     omega), Option.bind_some]
    refine fin _ ?_
    rw [hr]; rfl
   ·rw [if_neg (by simpa using hc)]
    refine fin [] ?_
    rw [hr]
    show _ = if c = 46 then _ else _
    rw [if_neg hc]
 unfold Z2e Z1t
 cases s with
 | nil =>
  rw [if_neg (by simp), if_neg (by simp)]
  exact main 0 rfl (by simp)
 | cons c r =>
  have h0 : at? (c :: r) 0 = some c := rfl
  have hn : ∀ k : Nat, k < 256 → ((c.toNat : Int) = (k : Int) ↔ c = UInt8.ofNat k) := fun k hk => by
   constructor
   ·intro h; rw [← UInt8.ofNat_toNat (x := c)]; congr 1; omega
   ·rintro rfl; simp; omega
  have h43 := hn 43 (by omega)
  have h45 := hn 45 (by omega)
  rw [if_pos (by simp), h0, Option.bind_some, Option.bind_some]
  by_cases c1 : c = 43
  ·rw [if_pos (by simp only [decide_eq_true_eq]; exact h43.2 c1), if_pos rfl]
   exact main 1 (by simp [fromN, c1]) (by simp)
  ·rw [if_neg (by simp only [decide_eq_true_eq]; exact fun h => c1 (h43.1 h))]
   by_cases c2 : c = 45
   ·rw [if_pos (by simp only [decide_eq_true_eq]; exact h45.2 c2)]
    exact main 1 (by simp [fromN, c2]) (by simp)
   ·rw [if_neg (by simp only [decide_eq_true_eq]; exact fun h => c2 (h45.1 h))]
    exact main 0 (by simp [fromN, c1, c2]) (by simp)
end Go.Proofs.YtkimpaokepfonaaGreatDoorBv
/- A text's tokens, as the program cuts them, as plain functions. No program is in sight. -/
namespace Go.Proofs.YtkimpaokepfonaaGreatDoorBv
open Go
set_option linter.unusedSimpArgs false
set_option linter.unusedVariables false
def isStart (c : UInt8) : Bool := decide (128 ≤ c.toNat) || decide (c = 95) || (decide (97 ≤ c.toNat) && decide (c.toNat ≤ 122)) || (decide (65 ≤ c.toNat) && decide (c.toNat ≤ 90))
def isSign (c : UInt8) : Bool := isStart c || isD c || decide (c = 45)
def escS (s : List UInt8) : Bool := match s with
 | c :: d :: _ => decide (c = 92) && !decide (d = 10)
 | _ => false
def beginsS (s : List UInt8) : Bool := match s with
 | [] => false
 | c :: d :: r => if c = 45 then decide (d = 45) || isStart d || escS (d :: r) else isStart c || escS (c :: d :: r)
 | [c] => isStart c
def addN (l : List UInt8) (k : Nat) (x : List UInt8 × Nat) : List UInt8 × Nat := (l ++ x.1, k + x.2)
def nameS : List UInt8 → List UInt8 × Nat
 | [] => ([], 0)
 | [c] => if isSign c then ([c], 1) else ([], 0)
 | c :: d :: r => if c = 92 ∧ d ≠ 10 then addN [d] 2 (nameS r) else if isSign c then addN [c] 1 (nameS (d :: r)) else ([], 0)
theorem starts_eq (c : UInt8) : Zb (c.toNat : Int) = isStart c := by
 have := u8_all (p := fun c => Zb (c.toNat : Int) == isStart c) (by decide +kernel) c
 simpa using this
theorem digit_eq (c : UInt8) : Zg (c.toNat : Int) = isD c := by
 unfold Zg isD
 congr 1
 ·rw [Bool.eq_iff_iff]; simp; omega
 ·rw [Bool.eq_iff_iff]; simp; omega
theorem byte_is (c : UInt8) (k : Nat) (hk : k < 256) : decide ((c.toNat : Int) = (k : Int)) = decide (c = UInt8.ofNat k) := by
 have : ((c.toNat : Int) = (k : Int)) ↔ c = UInt8.ofNat k := by
  constructor
  ·intro h; rw [← UInt8.ofNat_toNat (x := c)]; congr 1; omega
  ·rintro rfl; simp; omega
 rw [Bool.eq_iff_iff]
 simpa using this
theorem sign_eq (c : UInt8) : Z17 (c.toNat : Int) = isSign c := by
 unfold Z17 isSign
 rw [starts_eq, digit_eq]
 congr 1
 exact byte_is c 45 (by omega)
theorem escape_eq (s : List UInt8) : Z10 s = some (escS s) := by
 unfold Z10 Z1m
 match s with
 | [] => rfl
 | [c] => rfl
 | c :: d :: r =>
  have h0 : at? (c :: d :: r) 0 = some c := rfl
  have h1 : at? (c :: d :: r) 1 = some d := rfl
  rw [if_pos (by simp; omega), h0, Option.bind_some, h1, Option.bind_some]
  unfold escS
  rw [show decide ((c.toNat : Int) = 92) = decide (c = 92) from byte_is c 92 (by omega), show decide ((d.toNat : Int) = 10) = decide (d = 10) from byte_is d 10 (by omega)]
  by_cases hc : c = 92 <;> simp [hc]
theorem begins_eq (s : List UInt8) : Z18 s = some (beginsS s) := by
 unfold Z18 Z1o Z2c
 match s with
 | [] => rfl
 | [c] =>
  have h0 : at? [c] 0 = some c := rfl
  rw [if_neg (by simp), h0, Option.bind_some, if_neg (by simp), Option.bind_some, starts_eq, escape_eq, Option.bind_some]
  show (if isStart c = true then some true else some false) = some (isStart c)
  cases isStart c <;> rfl
 | c :: d :: r =>
  have h0 : at? (c :: d :: r) 0 = some c := rfl
  have h1 : at? (c :: d :: r) 1 = some d := rfl
  have hs : sub? (c :: d :: r) 1 (((c :: d :: r).length : Nat) : Int) = some (d :: r) := sub_drop (a := 1) (by simp)
  rw [if_neg (by simp), h0, Option.bind_some, Option.bind_some, starts_eq, escape_eq, Option.bind_some, h1, Option.bind_some, Option.bind_some, starts_eq, hs, Option.bind_some, escape_eq, Option.bind_some,
   show decide ((c.toNat : Int) = 45) = decide (c = 45) from byte_is c 45 (by omega), show decide ((d.toNat : Int) = 45) = decide (d = 45) from byte_is d 45 (by omega)]
  rw [show beginsS (c :: d :: r) = if c = 45 then decide (d = 45) || isStart d || escS (d :: r) else isStart c || escS (c :: d :: r) from rfl]
  by_cases hc : c = 45
  ·rw [if_pos (by simp [hc]; omega), if_pos hc]
   by_cases hd : d = 45
   ·rw [if_pos (by simp [hd])]; simp [hd]
   ·rw [if_neg (by simp [hd])]
    cases isStart d <;> simp [hd]
  ·rw [if_neg (by simp [hc]), if_neg hc]
   cases isStart c <;> simp
theorem wb_eq {l : List UInt8} {c : UInt8} (h : l.length < 140737488355328) : Z1l l (c.toNat : Int) = some (l ++ [c]) := by
 show bWriteByte? l (c.toNat : Int) = _
 unfold bWriteByte?
 have := c.toNat_lt
 rw [if_pos ⟨by omega, by omega, by omega⟩]
 simp
theorem name_l0 (s : List UInt8) (hl : s.length < 140737488355328) : ∀ (N i : Nat) (b : List UInt8), s.length - i < N → i ≤ s.length → b.length ≤ i →
  Zl s (fun b i => some (b, i)) N b (i : Int) = some (b ++ (nameS (s.drop i)).1, ((i + (nameS (s.drop i)).2 : Nat) : Int))
 | 0, i, b, hN, hi, hb => by omega
 | N + 1, i, b, hN, hi, hb => by
  rw [Zl]
  by_cases h : i < s.length
  ·rw [if_pos (by simp only [decide_eq_true_eq]; omega), sub_drop hi, Option.bind_some, escape_eq, Option.bind_some, at_some h, Option.bind_some, Option.bind_some, sign_eq, wb_eq (by omega), Option.bind_some, wi_id (n := (i : Int) + 1) (by omega) (by omega), wi_id (n := (i : Int) + 2) (by omega) (by omega),
    show (i : Int) + 1 = ((i + 1 : Nat) : Int) by omega, show (i : Int) + 2 = ((i + 2 : Nat) : Int) by omega]
   have e1 := List.drop_eq_getElem_cons h
   rw [e1]
   by_cases h2 : i + 1 < s.length
   ·have e2 := List.drop_eq_getElem_cons h2
    rw [e2, at_some h2, Option.bind_some, wb_eq (by omega), Option.bind_some, name_l0 s hl N (i + 2) _ (by omega) (by omega) (by simp; omega), name_l0 s hl N (i + 1) _ (by omega) (by omega) (by simp; omega)]
    unfold escS
    rw [show s.drop (i + 2) = s.drop (i + 1 + 1) from rfl]
    rw [show nameS (s[i] :: s[i + 1] :: s.drop (i + 1 + 1)) = if s[i] = 92 ∧ s[i + 1] ≠ 10 then addN [s[i + 1]] 2 (nameS (s.drop (i + 1 + 1))) else if isSign s[i] then addN [s[i]] 1 (nameS (s[i + 1] :: s.drop (i + 1 + 1))) else ([], 0) by rw [nameS]]
    by_cases hc : s[i] = 92 ∧ s[i + 1] ≠ 10
    ·rw [if_pos (by simp [hc.1, hc.2]), if_pos hc]
     simp [addN]
     omega
    ·rw [if_neg (by simp only [Bool.and_eq_true, decide_eq_true_eq, Bool.not_eq_true', decide_eq_false_iff_not]; exact hc), if_neg hc, e2]
     cases isSign s[i] with
     | true => simp [addN]; omega
     | false => simp
   ·have e2 : s.drop (i + 1) = [] := List.drop_eq_nil_of_le (by omega)
    rw [e2, name_l0 s hl N (i + 1) _ (by omega) (by omega) (by simp; omega), e2, show escS [s[i]] = false from rfl, if_neg (by simp), show nameS [s[i]] = if isSign s[i] then ([s[i]], 1) else ([], 0) by rw [nameS], show nameS [] = ([], 0) by rw [nameS]]
    cases isSign s[i] <;> simp
  ·rw [if_neg (by simp only [decide_eq_true_eq]; omega), List.drop_eq_nil_of_le (by omega), show nameS [] = ([], 0) by rw [nameS]]
   simp
theorem name_eq {s : List UInt8} (hl : s.length < 140737488355328) : Z1n s = some ((nameS s).1, ((nameS s).2 : Int)) := by
 unfold Z1n
 refine limF_of (s.length + 1) fun k hk => ?_
 have := name_l0 s hl k 0 [] (by omega) (by omega) (by simp)
 simpa using this
theorem nameS_le : ∀ (n : Nat) (s : List UInt8), s.length = n → (nameS s).2 ≤ s.length := by
 intro n
 induction n using Nat.strongRecOn with
 | _ n ih =>
  intro s hs
  match s with
  | [] => simp [nameS]
  | [c] => rw [nameS]; split <;> simp
  | c :: d :: r =>
   rw [nameS]
   simp only [List.length_cons] at hs
   split
   ·have := ih r.length (by omega) r rfl
    simp [addN]; omega
   ·split
    ·have := ih (r.length + 1) (by omega) (d :: r) rfl
     simp [addN] at this ⊢; omega
    ·simp
theorem named_eq {kind : Int} {s : List UInt8} {a : Nat} (hl : s.length < 140737488355328) (ha : a ≤ s.length) :
  Zm kind s (a : Int) = some ⟨kind, s.take (a + (nameS (s.drop a)).2), (nameS (s.drop a)).1, 0⟩ := by
 have h1 := nameS_le _ (s.drop a) rfl
 rw [List.length_drop] at h1
 unfold Zm
 rw [sub_drop ha, Option.bind_some, name_eq (by rw [List.length_drop]; omega), Option.bind_some, wi_id (by omega) (by omega), show (a : Int) + ((nameS (s.drop a)).2 : Int) = ((a + (nameS (s.drop a)).2 : Nat) : Int) by omega, sub_take (by omega), Option.bind_some]
theorem set_self {α : Type} {l : List α} {i : Nat} {a : α} (h : l[i]? = some a) : l.set i a = l := by
 obtain ⟨h1, h2⟩ := List.getElem?_eq_some_iff.1 h
 rw [← h2]
 exact List.set_getElem_self h1
def lowB (c : UInt8) : UInt8 := if 65 ≤ c.toNat ∧ c.toNat ≤ 90 then c + 32 else c
theorem lower_l0 (s : List UInt8) (hl : s.length < 140737488355328) : ∀ (N i : Nat), s.length - i < N → i ≤ s.length →
  Zp (fun b => some (byts b)) N (ints ((s.take i).map lowB ++ s.drop i)) (s.length : Int) (i : Int) = some (s.map lowB)
 | 0, i, hN, hi => by omega
 | N + 1, i, hN, hi => by
  rw [Zp]
  by_cases h : i < s.length
  ·have hlen : ((s.take i).map lowB).length = i := by simp; omega
   have hg : ((s.take i).map lowB ++ s.drop i)[i]? = some s[i] := by
    rw [List.getElem?_append_right (by omega), hlen]
    simp [h]
   have ih := lower_l0 s hl N (i + 1) (by omega) (by omega)
   have eset : ((s.take i).map lowB ++ s.drop i).set i (lowB s[i]) = (s.take (i + 1)).map lowB ++ s.drop (i + 1) := by
    rw [List.set_append_right _ _ (by omega), hlen, List.drop_eq_getElem_cons h, Nat.sub_self, List.set_cons_zero, List.take_add_one, List.getElem?_eq_getElem h]
    simp only [Option.toList_some, List.map_append, List.map_cons, List.map_nil, List.append_assoc, List.cons_append, List.nil_append]
   rw [if_pos (by simp only [decide_eq_true_eq]; omega), at_nat, ints_get, hg, Option.map_some, Option.bind_some]
   unfold Z2f
   rw [wi_id (by omega) (by omega), show (i : Int) + 1 = ((i + 1 : Nat) : Int) by omega]
   have hint : ∀ c : UInt8, (ints ((s.take i).map lowB ++ s.drop i)).set i (c.toNat : Int) = ints (((s.take i).map lowB ++ s.drop i).set i c) := by
    intro c
    unfold ints
    rw [List.map_set]
   by_cases hc : 65 ≤ s[i].toNat ∧ s[i].toNat ≤ 90
   ·have e : lowB s[i] = s[i] + 32 := by unfold lowB; rw [if_pos hc]
    have e2 : wr .u8 ((s[i].toNat : Int) + 32) = ((lowB s[i]).toNat : Int) := by
     rw [e, wr_u8, UInt8.toNat_add]
     have : (32 : UInt8).toNat = 32 := rfl
     omega
    rw [if_pos (by simp; omega), Option.bind_some, e2, show ((i : Int)).toNat = i from rfl, hint, eset]
    exact ih
   ·have e : lowB s[i] = s[i] := by unfold lowB; rw [if_neg hc]
    rw [if_neg (by simp; omega)]
    have : (s.take i).map lowB ++ s.drop i = (s.take (i + 1)).map lowB ++ s.drop (i + 1) := by
     rw [← eset, e]
     exact (set_self hg).symm
    rw [this]
    exact ih
  ·have : i = s.length := by omega
   subst this
   rw [if_neg (by simp)]
   simp [byts_ints]
theorem lower_eq {s : List UInt8} (hl : s.length < 140737488355328) : Z2g s = some (s.map lowB) := by
 unfold Z2g
 refine limF_of (s.length + 1) fun k hk => ?_
 have := lower_l0 s hl k 0 (by omega) (by omega)
 rw [ints_length]
 simpa using this
def numberS (s : List UInt8) (num : Int) (n : Nat) : TSToken := match s.drop n with
 | [] => ⟨7, s.take n, [], num⟩
 | c :: r => if c = 37 then ⟨7, s.take (n + 1), [37], num⟩ else if beginsS (c :: r) then ⟨7, s.take (n + (nameS (c :: r)).2), (nameS (c :: r)).1.map lowB, num⟩ else ⟨7, s.take n, [], num⟩
theorem nameS_len : ∀ (n : Nat) (s : List UInt8), s.length = n → (nameS s).1.length ≤ s.length := by
 intro n
 induction n using Nat.strongRecOn with
 | _ n ih =>
  intro s hs
  match s with
  | [] => simp [nameS]
  | [c] => rw [nameS]; split <;> simp
  | c :: d :: r =>
   rw [nameS]
   simp only [List.length_cons] at hs
   split
   ·have := ih r.length (by omega) r rfl
    simp [addN]; omega
   ·split
    ·have := ih (r.length + 1) (by omega) (d :: r) rfl
     simp [addN] at this ⊢; omega
    ·simp
theorem number_eq {s : List UInt8} {num : Int} {n : Nat} (hl : s.length < 140737488355328) (hn : n ≤ s.length) : Z2h s num (n : Int) = some (numberS s num n) := by
 unfold Z2h Z1u numberS
 rw [sub_take hn, Option.bind_some, sub_drop hn, Option.bind_some, hasPrefix1, Option.bind_some, begins_eq, Option.bind_some]
 cases hd : s.drop n with
 | nil => rfl
 | cons c r =>
  have hlr := congrArg List.length hd
  simp only [List.length_drop, List.length_cons] at hlr
  simp only [List.head?_cons, Option.some.injEq]
  by_cases hc : c = 37
  ·rw [if_pos (by simpa using hc), if_pos hc, wi_id (by omega) (by omega), show (n : Int) + 1 = ((n + 1 : Nat) : Int) by omega, sub_take (by omega), Option.bind_some]
  ·rw [if_neg (by simpa using hc), if_neg hc]
   cases hb : beginsS (c :: r) with
   | false => rfl
   | true =>
    have h1 := nameS_le _ (c :: r) rfl
    have h2 := nameS_len _ (c :: r) rfl
    simp only [List.length_cons] at h1 h2
    rw [if_pos rfl, if_pos rfl, name_eq (by simp only [List.length_cons]; omega), Option.bind_some, wi_id (by omega) (by omega), show (n : Int) + ((nameS (c :: r)).2 : Int) = ((n + (nameS (c :: r)).2 : Nat) : Int) by omega, sub_take (by omega), Option.bind_some, lower_eq (s := (nameS (c :: r)).1) (by omega), Option.bind_some]
/-- a text between quotes 'q', behind the first: its value, how many bytes, and how it ends: 0 with the quote, 1 with a line's end, 2 with the text's -/
def textS (q : UInt8) : List UInt8 → List UInt8 × Nat × Nat
 | [] => ([], 0, 2)
 | [c] => if c = q then ([], 0, 0) else if c = 10 then ([], 0, 1) else ([c], 1, 2)
 | c :: d :: r => if c = q then ([], 0, 0) else if c = 10 then ([], 0, 1) else if c = 92 then (let x := textS q r; (d :: x.1, x.2.1 + 2, x.2.2)) else (let x := textS q (d :: r); (c :: x.1, x.2.1 + 1, x.2.2))
def textT (s : List UInt8) (b : List UInt8) (i : Nat) (x : List UInt8 × Nat × Nat) : TSToken :=
 if x.2.2 = 0 then ⟨5, s.take (i + x.2.1 + 1), b ++ x.1, 0⟩ else if x.2.2 = 1 then ⟨6, s.take (i + x.2.1), [], 0⟩ else ⟨6, s, [], 0⟩
theorem text_l0 (s : List UInt8) (q : UInt8) (hq : s[0]? = some q) (hl : s.length < 140737488355328) : ∀ (N i : Nat) (b : List UInt8), s.length - i < N → i ≤ s.length → b.length ≤ i →
  Zk s (fun _ => some ⟨6, s, [], 0⟩) N b (i : Int) = some (textT s b i (textS q (s.drop i)))
 | 0, i, b, hN, hi, hb => by omega
 | N + 1, i, b, hN, hi, hb => by
  rw [Zk]
  have a0 : at? s 0 = some q := by
   have := at_nat s 0
   rw [hq] at this
   exact this
  by_cases h : i < s.length
  ·rw [if_pos (by simp only [decide_eq_true_eq]; omega), at_some h, Option.bind_some, a0, Option.bind_some]
   have e1 := List.drop_eq_getElem_cons h
   have eq0 : decide ((s[i].toNat : Int) = (q.toNat : Int)) = decide (s[i] = q) := by
    have := byte_is s[i] q.toNat q.toNat_lt
    rwa [UInt8.ofNat_toNat] at this
   rw [eq0, show decide ((s[i].toNat : Int) = 10) = decide (s[i] = 10) from byte_is _ 10 (by omega), show decide ((s[i].toNat : Int) = 92) = decide (s[i] = 92) from byte_is _ 92 (by omega), wi_id (n := (i : Int) + 1) (by omega) (by omega), show (i : Int) + 1 = ((i + 1 : Nat) : Int) by omega, sub_take (by omega), Option.bind_some, sub_take hi, Option.bind_some, wb_eq (by omega), Option.bind_some]
   unfold Z2a
   rw [wi_id (n := ((i + 1 : Nat) : Int) + 1) (by omega) (by omega), wi_id (n := (i : Int) + 1) (by omega) (by omega), show ((i + 1 : Nat) : Int) + 1 = ((i + 2 : Nat) : Int) by omega, show (i : Int) + 1 = ((i + 1 : Nat) : Int) by omega]
   rw [text_l0 s q hq hl N (i + 1) (b ++ [s[i]]) (by omega) (by omega) (by simp; omega), e1]
   by_cases h2 : i + 1 < s.length
   ·have e2 := List.drop_eq_getElem_cons h2
    rw [e2, textS, at_some h2, Option.bind_some, wb_eq (by omega), Option.bind_some, text_l0 s q hq hl N (i + 2) (b ++ [s[i + 1]]) (by omega) (by omega) (by simp; omega)]
    by_cases c1 : s[i] = q
    ·rw [if_pos (by simpa using c1), if_pos c1]; simp [textT]
    ·rw [if_neg (by simpa using c1), if_neg c1]
     by_cases c2 : s[i] = 10
     ·rw [if_pos (by simpa using c2), if_pos c2]; simp [textT]
     ·rw [if_neg (by simpa using c2), if_neg c2]
      by_cases c3 : s[i] = 92
      ·rw [if_pos (by simp [c3]; omega), if_pos c3]
       simp only [textT, List.append_assoc, List.cons_append, List.nil_append]
       rw [show i + 2 + (textS q (s.drop (i + 2))).2.1 + 1 = i + ((textS q (s.drop (i + 2))).2.1 + 2) + 1 by omega, show i + 2 + (textS q (s.drop (i + 2))).2.1 = i + ((textS q (s.drop (i + 2))).2.1 + 2) by omega]
      ·rw [if_neg (by simp [c3]), if_neg c3]
       simp only [textT, List.append_assoc, List.cons_append, List.nil_append]
       generalize textS q (s[i + 1] :: s.drop (i + 1 + 1)) = x
       rw [show i + 1 + x.2.1 + 1 = i + (x.2.1 + 1) + 1 by omega, show i + 1 + x.2.1 = i + (x.2.1 + 1) by omega]
   ·have e2 : s.drop (i + 1) = [] := List.drop_eq_nil_of_le (by omega)
    rw [e2, show textS q [] = ([], 0, 2) by rw [textS], show textS q [s[i]] = if s[i] = q then ([], 0, 0) else if s[i] = 10 then ([], 0, 1) else ([s[i]], 1, 2) by rw [textS]]
    by_cases c1 : s[i] = q
    ·rw [if_pos (by simpa using c1), if_pos c1]; simp [textT]
    ·rw [if_neg (by simpa using c1), if_neg c1]
     by_cases c2 : s[i] = 10
     ·rw [if_pos (by simpa using c2), if_pos c2]; simp [textT]
     ·rw [if_neg (by simpa using c2), if_neg c2, if_neg (by simp; intros; omega)]
      simp [textT]
  ·rw [if_neg (by simp only [decide_eq_true_eq]; omega), List.drop_eq_nil_of_le (by omega), show textS q [] = ([], 0, 2) by rw [textS]]
   simp [textT]
theorem text_eq {s : List UInt8} {q : UInt8} (hq : s[0]? = some q) (hl : s.length < 140737488355328) : Z2b s = some (textT s [] 1 (textS q (s.drop 1))) := by
 have hne : 1 ≤ s.length := by
  cases s with
  | nil => cases hq
  | cons => simp
 unfold Z2b
 exact limF_of (s.length + 1) fun k hk => text_l0 s q hq hl k 1 [] (by omega) hne (by simp)
end Go.Proofs.YtkimpaokepfonaaGreatDoorBv
/- The first token of a text, and all of them, as the program cuts them. No program is in sight. -/
namespace Go.Proofs.YtkimpaokepfonaaGreatDoorBv
open Go
set_option linter.unusedSimpArgs false
set_option linter.unusedVariables false
deriving instance DecidableEq for TSToken
def isBlank (c : UInt8) : Bool := decide (c = 32) || decide (c = 9) || decide (c = 10) || decide (c = 12) || decide (c = 13)
def nameT (s : List UInt8) : TSToken :=
 let k := (nameS s).2
 if (s.drop k).head? = some 40 then ⟨2, s.take (k + 1), (nameS s).1, 0⟩ else ⟨1, s.take k, (nameS s).1, 0⟩
def namedT (kind : Int) (s : List UInt8) : TSToken := ⟨kind, s.take (1 + (nameS (s.drop 1)).2), (nameS (s.drop 1)).1, 0⟩
def oneS (c : UInt8) : Int := if c = 40 ∨ c = 91 ∨ c = 123 then 10 else if c = 41 ∨ c = 93 ∨ c = 125 then 11 else if c = 92 then 6 else 12
/-- where a remark ends -/
def noteI : List UInt8 → Option Nat
 | [] => none
 | [_] => none
 | c :: d :: r => if c = 42 ∧ d = 47 then some 0 else (noteI (d :: r)).map (· + 1)
def noteT (s : List UInt8) : TSToken := ⟨9, match noteI (s.drop 2) with | some k => s.take (k + 4) | none => s, [], 0⟩
theorem noteI_le : ∀ (l : List UInt8) (k : Nat), noteI l = some k → k + 2 ≤ l.length
 | [], k, h => by cases h
 | [_], k, h => by cases h
 | c :: d :: r, k, h => by
  unfold noteI at h
  split at h
  ·cases h; simp
  ·cases hn : noteI (d :: r) with
   | none => rw [hn] at h; cases h
   | some j =>
    rw [hn] at h
    cases h
    have := noteI_le (d :: r) j hn
    simp only [List.length_cons] at this ⊢
    omega
theorem index_note : ∀ (l : List UInt8), Lib.index l [42, 47] = match noteI l with | some k => (k : Int) | none => -1
 | [] => rfl
 | [c] => by simp [Lib.index, noteI, List.isPrefixOf]
 | c :: d :: r => by
  have ih := index_note (d :: r)
  unfold Lib.index noteI
  have e : ([42, 47] : List UInt8).isPrefixOf (c :: d :: r) = decide (c = 42 ∧ d = 47) := by
   simp only [List.isPrefixOf, Bool.and_true]
   rw [Bool.eq_iff_iff]
   simp
   constructor
   ·rintro ⟨rfl, rfl⟩; exact ⟨rfl, rfl⟩
   ·rintro ⟨rfl, rfl⟩; exact ⟨rfl, rfl⟩
  rw [e]
  by_cases h : c = 42 ∧ d = 47
  ·rw [if_pos (by simpa using h), if_pos h]; rfl
  ·rw [if_neg (by simpa using h), if_neg h, ih]
   cases noteI (d :: r) with
   | none => rfl
   | some k =>
    simp only [Option.map_some]
    have hne : ¬ (((k : Int) == -1) = true) := by simp
    rw [if_neg hne]
    rfl
def hashB (r : List UInt8) : Bool := match r with
 | [] => false
 | d :: _ => isSign d || escS r
def tokS (c : UInt8) (r : List UInt8) : TSToken :=
 if c = 39 ∨ c = 34 then textT (c :: r) [] 1 (textS c r)
 else if c = 35 ∧ hashB r = true then namedT 4 (c :: r)
 else if c = 64 ∧ beginsS r = true then namedT 3 (c :: r)
 else if 0 < (numS (c :: r)).2 then numberS (c :: r) (numS (c :: r)).1 (numS (c :: r)).2.toNat
 else if beginsS (c :: r) then nameT (c :: r)
 else ⟨oneS c, [c], [], 0⟩
def firstS (s : List UInt8) : TSToken :=
 if s.takeWhile isBlank ≠ [] then ⟨8, s.takeWhile isBlank, [], 0⟩
 else if s.take 2 = [47, 42] then noteT s
 else match s with
  | [] => ⟨12, [], [], 0⟩
  | c :: r => tokS c r
theorem blanks_eq (c : UInt8) : ([32, 9, 10, 12, 13] : List UInt8).contains c = isBlank c := by
 have := u8_all (p := fun c => ([32, 9, 10, 12, 13] : List UInt8).contains c == isBlank c) (by decide +kernel) c
 simpa using this
theorem trim_eq (s : List UInt8) : Z28 s [32, 9, 10, 12, 13] = some (s.dropWhile isBlank) := by
 show trimLeft? _ _ = _
 unfold trimLeft?
 rw [if_pos (by decide)]
 unfold Lib.trimLeftS
 congr 2
 funext c
 exact blanks_eq c
theorem prefix2 (s : List UInt8) (a b : UInt8) : Z29 s [a, b] = some (if s.take 2 = [a, b] then (s.drop 2, true) else (s, false)) := by
 unfold Z29 Z2y Z1k Z1j
 by_cases hl : 2 ≤ s.length
 ·have e1 : sub? s 0 ((([a, b] : List UInt8).length : Nat) : Int) = some (s.take 2) := sub_take (b := 2) hl
  have e2 : sub? s ((([a, b] : List UInt8).length : Nat) : Int) (s.length : Int) = some (s.drop 2) := sub_drop (a := 2) hl
  rw [if_pos (by simp; omega), e1, Option.bind_some, Option.bind_some, e2]
  by_cases h : s.take 2 = [a, b]
  ·rw [if_neg (by simp [h]), if_pos h]; rfl
  ·rw [if_pos (by simp [h]), if_neg h]; rfl
 ·rw [if_neg (by simp; omega), Option.bind_some, if_pos (by rfl), if_neg (by
   intro h
   have := congrArg List.length h
   simp at this
   omega)]
  rfl
theorem one_eq (k : Int) (c : UInt8) (r : List UInt8) : Z12 k (c :: r) = some ⟨k, [c], [], 0⟩ := by
 unfold Z12
 have : sub? (c :: r) 0 1 = some [c] := sub_take (b := 1) (by simp)
 rw [this, Option.bind_some]
theorem nameT_eq {s : List UInt8} (hl : s.length < 140737488355328) : (Zm 1 s 0).bind (fun r_11 =>
  (sub? s (r_11.Raw.length : Int) (s.length : Int)).bind fun r_12 =>
  (Z11 r_12 [40]).bind fun r_13 =>
  if r_13 then
   (sub? s 0 (wi ((r_11.Raw.length : Int) + 1))).bind fun r_14 =>
   Z1b r_11 2 r_14
  else
   Z1b r_11 r_11.Kind r_11.Raw) = some (nameT s) := by
 have h1 := named_eq (kind := 1) (s := s) (a := 0) hl (Nat.zero_le _)
 have h2 := nameS_le _ s rfl
 rw [show (((0 : Nat)) : Int) = 0 from rfl, List.drop_zero, Nat.zero_add] at h1
 have e : (s.take (nameS s).2).length = (nameS s).2 := by rw [List.length_take]; omega
 rw [h1, Option.bind_some]
 simp only [e]
 rw [sub_drop h2, Option.bind_some, hasPrefix1, Option.bind_some]
 unfold nameT Z1b
 by_cases h : (s.drop (nameS s).2).head? = some 40
 ·have h3 : (nameS s).2 < s.length := by
   rcases Nat.lt_or_ge (nameS s).2 s.length with h | h'
   ·exact h
   ·rw [List.drop_eq_nil_of_le h'] at h; cases h
  rw [if_pos (by simpa using h), wi_id (by omega) (by omega), show ((nameS s).2 : Int) + 1 = (((nameS s).2 + 1 : Nat) : Int) by omega, sub_take (by omega), Option.bind_some]
  simp only [if_pos h]
 ·rw [if_neg (by simpa using h)]
  simp only [if_neg h]
theorem fracN_le (l : List UInt8) : (if (fracN l).length = 0 then 0 else 1 + (fracN l).length) ≤ l.length := by
 unfold fracN
 cases l with
 | nil => simp
 | cons c r =>
  have := dropWhile_take isD r
  simp only [List.length_cons]
  by_cases hc : c = 46
  ·rw [if_pos hc]
   split <;> omega
  ·rw [if_neg hc]; simp
theorem numS_le (s : List UInt8) : 0 ≤ (numS s).2 ∧ (numS s).2 ≤ s.length := by
 unfold numS
 simp only
 split
 ·simp
 ·refine ⟨Int.natCast_nonneg _, ?_⟩
  have h1 : fromN s ≤ s.length := by
   unfold fromN
   split
   ·simp
   ·simp; split <;> omega
  have h2 := dropWhile_take isD (s.drop (fromN s))
  have h3 := fracN_le ((s.drop (fromN s)).drop ((s.drop (fromN s)).takeWhile isD).length)
  rw [List.length_drop] at h2
  rw [List.length_drop, List.length_drop] at h3
  omega
theorem j3_eq {c : UInt8} {r : List UInt8} (hl : (c :: r).length < 140737488355328) : Z1c (c :: r) false = some (if 0 < (numS (c :: r)).2 then numberS (c :: r) (numS (c :: r)).1 (numS (c :: r)).2.toNat
 else if beginsS (c :: r) then nameT (c :: r)
 else ⟨oneS c, [c], [], 0⟩) := by
 unfold Z1c
 rw [if_neg (by simp), Number_eq (by omega), Option.bind_some]
 have hn := numS_le (c :: r)
 by_cases h0 : 0 < (numS (c :: r)).2
 ·rw [if_pos (by simpa using h0), if_pos h0]
  have e : ((numS (c :: r)).2.toNat : Int) = (numS (c :: r)).2 := by omega
  rw [← e, number_eq hl (by omega), Option.bind_some]
  rfl
 ·rw [if_neg (by simpa using h0), if_neg h0, begins_eq, Option.bind_some]
  cases hb : beginsS (c :: r) with
  | true => rw [if_pos rfl, if_pos rfl]; exact nameT_eq hl
  | false =>
   rw [if_neg (by simp), if_neg (by simp)]
   have h0 : at? (c :: r) 0 = some c := rfl
   rw [h0, Option.bind_some]
   rw [show decide ((c.toNat : Int) = 40) = decide (c = 40) from byte_is c 40 (by omega), show decide ((c.toNat : Int) = 91) = decide (c = 91) from byte_is c 91 (by omega), show decide ((c.toNat : Int) = 123) = decide (c = 123) from byte_is c 123 (by omega)]
   unfold Z1w Z1v oneS
   rw [show decide ((c.toNat : Int) = 41) = decide (c = 41) from byte_is c 41 (by omega), show decide ((c.toNat : Int) = 93) = decide (c = 93) from byte_is c 93 (by omega), show decide ((c.toNat : Int) = 125) = decide (c = 125) from byte_is c 125 (by omega), show decide ((c.toNat : Int) = 92) = decide (c = 92) from byte_is c 92 (by omega)]
   simp only [one_eq, Option.bind_some]
   by_cases c1 : c = 40
   ·subst c1; rfl
   by_cases c2 : c = 91
   ·subst c2; rfl
   by_cases c3 : c = 123
   ·subst c3; rfl
   by_cases c4 : c = 41
   ·subst c4; rfl
   by_cases c5 : c = 93
   ·subst c5; rfl
   by_cases c6 : c = 125
   ·subst c6; rfl
   by_cases c7 : c = 92
   ·subst c7; rfl
   simp [c1, c2, c3, c4, c5, c6, c7]
theorem first_eq {s : List UInt8} (hs : s ≠ []) (hl : s.length < 4294967281) : Z2j s = some (firstS s) := by
 have hdt := dropWhile_take isBlank s
 have htk := take_takeWhile isBlank s
 unfold Z2j firstS
 rw [trim_eq, Option.bind_some, wi_id (by omega) (by omega), show (s.length : Int) - ((s.dropWhile isBlank).length : Int) = ((s.takeWhile isBlank).length : Int) by omega]
 by_cases hb : s.takeWhile isBlank = []
 ·rw [if_neg (by simp [hb]), if_neg (by simp [hb]), prefix2, Option.bind_some]
  by_cases hp : s.take 2 = [47, 42]
  ·rw [if_pos hp, if_pos hp, if_pos rfl]
   have h2 : 2 ≤ s.length := by
    have := congrArg List.length hp
    simp at this
    omega
   have hi : Z3d (s.drop 2) [42, 47] = some (Lib.index (s.drop 2) [42, 47]) := by
    show index? _ _ = _
    unfold index?
    rw [if_pos (by rw [List.length_drop]; omega)]
   rw [hi, Option.bind_some]
   unfold Z2i noteT
   rw [index_note]
   cases hn : noteI (s.drop 2) with
   | none => rw [if_neg (by decide)]
   | some k =>
    have hle := noteI_le _ _ hn
    rw [List.length_drop] at hle
    show (if decide (0 ≤ (k : Int)) = true then ((sub? s 0 (wi ((k : Int) + 4))).bind fun r_4 => some (⟨9, r_4, [], 0⟩ : TSToken)) else _) = _
    rw [if_pos (by simp), wi_id (by omega) (by omega), show (k : Int) + 4 = ((k + 4 : Nat) : Int) by omega, sub_take (by omega), Option.bind_some]
  ·rw [if_neg hp, if_neg hp, if_neg (by simp)]
   match s, hs with
   | c :: r, _ =>
    have h0 : at? (c :: r) 0 = some c := rfl
    rw [h0, Option.bind_some, show decide ((c.toNat : Int) = 39) = decide (c = 39) from byte_is c 39 (by omega), show decide ((c.toNat : Int) = 34) = decide (c = 34) from byte_is c 34 (by omega), show decide ((c.toNat : Int) = 35) = decide (c = 35) from byte_is c 35 (by omega)]
    show _ = some (tokS c r)
    unfold tokS
    by_cases cq : c = 39 ∨ c = 34
    ·rw [if_pos (by simpa using cq), if_pos cq, text_eq (q := c) rfl (by omega), Option.bind_some]
     rfl
    ·rw [if_neg (by simpa using cq), if_neg cq]
     have n4 : Zm 4 (c :: r) 1 = some (namedT 4 (c :: r)) := named_eq (a := 1) (by omega) (by simp)
     have n3 : Zm 3 (c :: r) 1 = some (namedT 3 (c :: r)) := named_eq (a := 1) (by omega) (by simp)
     have hsub : sub? (c :: r) 1 (((c :: r).length : Nat) : Int) = some r := sub_drop (a := 1) (by simp)
     have j2 : Zt (c :: r) c false = some (if c = 64 ∧ beginsS r = true then namedT 3 (c :: r)
       else if 0 < (numS (c :: r)).2 then numberS (c :: r) (numS (c :: r)).1 (numS (c :: r)).2.toNat
       else if beginsS (c :: r) then nameT (c :: r)
       else ⟨oneS c, [c], [], 0⟩) := by
      unfold Zt
      rw [if_neg (by simp), show decide ((c.toNat : Int) = 64) = decide (c = 64) from byte_is c 64 (by omega), hsub, Option.bind_some, begins_eq, Option.bind_some, j3_eq (by omega)]
      by_cases c64 : c = 64
      ·rw [if_pos (by simpa using c64)]
       cases hb : beginsS r with
       | true =>
        rw [if_pos ⟨c64, rfl⟩]
        unfold Z1c
        rw [if_pos rfl, n3, Option.bind_some]
       | false => rw [if_neg (by simp), j3_eq (by omega)]
      ·have n64 : ¬ (c = 64 ∧ beginsS r = true) := fun h => c64 h.1
       rw [if_neg (by simpa using c64), if_neg n64]
     by_cases c35 : c = 35
     ·cases r with
      | nil =>
       have nh : ¬ (c = 35 ∧ hashB [] = true) := fun h => by cases h.2
       rw [if_neg (by simp), j2, if_neg nh]
      | cons d r =>
       have h1 : at? (c :: d :: r) 1 = some d := rfl
       rw [if_pos (by simp [c35]; omega), h1, Option.bind_some, sign_eq, hsub, Option.bind_some, escape_eq, Option.bind_some]
       have jt : Zt (c :: d :: r) c true = some (namedT 4 (c :: d :: r)) := by
        unfold Zt
        rw [if_pos rfl, n4, Option.bind_some]
       cases hsd : isSign d with
       | true => rw [if_pos rfl, jt, if_pos ⟨c35, by simp [hashB, hsd]⟩]
       | false =>
        rw [if_neg (by simp)]
        cases he : escS (d :: r) with
        | true => rw [jt, if_pos ⟨c35, by simp [hashB, hsd, he]⟩]
        | false =>
         have nh : ¬ (c = 35 ∧ hashB (d :: r) = true) := fun h => by have := h.2; simp [hashB, hsd, he] at this
         rw [j2, if_neg nh]
     ·have nh : ¬ (c = 35 ∧ hashB r = true) := fun h => c35 h.1
      rw [if_neg (by simp [c35]), j2, if_neg nh]
 ·have hpos : 0 < (s.takeWhile isBlank).length := List.length_pos_iff.2 hb
  rw [if_pos (by simp only [decide_eq_true_eq]; omega), if_pos hb, sub_take (by omega), Option.bind_some, htk]
end Go.Proofs.YtkimpaokepfonaaGreatDoorBv
/- All tokens of a text, as the program cuts them. No program is in sight. -/
namespace Go.Proofs.YtkimpaokepfonaaGreatDoorBv
open Go
set_option linter.unusedSimpArgs false
set_option linter.unusedVariables false
theorem take_pos {s : List UInt8} {m : Nat} (hs : s ≠ []) (h : 1 ≤ m) : 1 ≤ (s.take m).length ∧ (s.take m).length ≤ s.length := by
 have := List.length_pos_iff.2 hs
 rw [List.length_take]
 omega
theorem all_pos {s : List UInt8} (hs : s ≠ []) : 1 ≤ s.length ∧ s.length ≤ s.length := ⟨List.length_pos_iff.2 hs, Nat.le_refl _⟩
theorem nameS_pos {s : List UInt8} (h : beginsS s = true) : 1 ≤ (nameS s).2 := by
 match s, h with
 | [c], h =>
  have h : isStart c = true := h
  rw [nameS, if_pos (by simp [isSign, h])]
  simp
 | c :: d :: r, h =>
  have h : (if c = 45 then decide (d = 45) || isStart d || escS (d :: r) else isStart c || escS (c :: d :: r)) = true := h
  rw [nameS]
  by_cases h1 : c = 92 ∧ d ≠ 10
  ·rw [if_pos h1]; simp only [addN]; omega
  ·have hsg : isSign c = true := by
    by_cases hc : c = 45
    ·simp [isSign, hc]
    ·rw [if_neg hc] at h
     cases hst : isStart c with
     | true => simp [isSign, hst]
     | false =>
      rw [hst] at h
      simp only [escS, Bool.false_or, Bool.and_eq_true, decide_eq_true_eq, Bool.not_eq_true', decide_eq_false_iff_not] at h
      exact absurd h h1
   rw [if_neg h1, if_pos hsg]
   simp only [addN]; omega
theorem firstS_raw {s : List UInt8} (hs : s ≠ []) : 1 ≤ (firstS s).Raw.length ∧ (firstS s).Raw.length ≤ s.length := by
 unfold firstS
 have hdt := dropWhile_take isBlank s
 by_cases hb : s.takeWhile isBlank = []
 ·rw [if_neg (by simp [hb])]
  by_cases hp : s.take 2 = [47, 42]
  ·rw [if_pos hp]
   unfold noteT
   cases noteI (s.drop 2) with
   | some k => exact take_pos hs (by omega)
   | none => exact all_pos hs
  ·rw [if_neg hp]
   match s, hs with
   | c :: r, hs =>
    show 1 ≤ (tokS c r).Raw.length ∧ (tokS c r).Raw.length ≤ _
    unfold tokS
    split
    ·unfold textT
     split
     ·exact take_pos hs (by omega)
     ·split
      ·exact take_pos hs (by omega)
      ·exact all_pos hs
    ·split
     ·exact take_pos hs (by omega)
     ·split
      ·exact take_pos hs (by omega)
      ·split
       ·rename_i hn
        unfold numberS
        split
        ·exact take_pos hs (by omega)
        ·split
         ·exact take_pos hs (by omega)
         ·split
          ·exact take_pos hs (by omega)
          ·exact take_pos hs (by omega)
       ·split
        ·rename_i hbeg
         have := nameS_pos hbeg
         unfold nameT
         simp only
         split
         ·exact take_pos hs (by omega)
         ·exact take_pos hs (by omega)
        ·simp
 ·rw [if_pos hb]
  have := List.length_pos_iff.2 hb
  exact ⟨this, by show (s.takeWhile isBlank).length ≤ _; omega⟩
def cutF : Nat → List UInt8 → List TSToken
 | 0, _ => []
 | N + 1, s => if s = [] then [] else firstS s :: cutF N (s.drop (firstS s).Raw.length)
def cutS (s : List UInt8) : List TSToken := cutF s.length s
theorem cutF_nil (N : Nat) : cutF N [] = [] := by cases N <;> rfl
theorem cutF_more : ∀ (N M : Nat) (s : List UInt8), s.length ≤ N → s.length ≤ M → cutF N s = cutF M s
 | 0, M, s, h1, h2 => by
  rw [show s = [] from List.eq_nil_of_length_eq_zero (by omega), cutF_nil, cutF_nil]
 | N + 1, 0, s, h1, h2 => by
  rw [show s = [] from List.eq_nil_of_length_eq_zero (by omega), cutF_nil, cutF_nil]
 | N + 1, M + 1, s, h1, h2 => by
  rw [cutF, cutF]
  by_cases hs : s = []
  ·rw [if_pos hs, if_pos hs]
  ·have := firstS_raw hs
   rw [if_neg hs, if_neg hs, cutF_more N M _ (by rw [List.length_drop]; omega) (by rw [List.length_drop]; omega)]
theorem cut_l0 : ∀ (N : Nat) (s : List UInt8) (out : List TSToken), s.length < N → s.length < 4294967281 → out.length + s.length < 4294967281 →
  Zu (fun out => some out) N s out = some (out ++ cutS s)
 | 0, s, out, hN, hl, ho => by omega
 | N + 1, s, out, hN, hl, ho => by
  rw [Zu]
  by_cases hs : s = []
  ·subst hs
   rw [if_neg (by simp)]
   simp [cutS, cutF]
  ·obtain ⟨h1, h2⟩ := firstS_raw hs
   rw [if_pos (by simp [hs]), first_eq hs hl, Option.bind_some, appq (by simp; omega), Option.bind_some, sub_drop h2, Option.bind_some, cut_l0 N _ _ (by rw [List.length_drop]; omega) (by rw [List.length_drop]; omega) (by rw [List.length_append, List.length_drop]; simp; omega)]
   congr 1
   rw [List.append_assoc]
   congr 1
   unfold cutS
   have hlen : s.length = (s.length - 1) + 1 := by omega
   rw [hlen, cutF, if_neg hs, cutF_more (s.length - 1) (s.drop (firstS s).Raw.length).length _ (by rw [List.length_drop]; omega) (Nat.le_refl _)]
   rfl
theorem cut_eq {s : List UInt8} (hl : s.length < 4294967281) : Z2k s = some (cutS s) := by
 unfold Z2k
 exact limF_of (s.length + 1) fun k hk => by rw [cut_l0 k s [] (by omega) hl (by simpa using hl)]; rfl
end Go.Proofs.YtkimpaokepfonaaGreatDoorBv
/- Texts joined, as plain lists. No program is in sight. -/
namespace Go.Proofs.YtkimpaokepfonaaGreatDoorBv
open Go
set_option linter.unusedSimpArgs false
set_option linter.unusedVariables false
def joinL (sep : List UInt8) : List (List UInt8) → List UInt8
 | [] => []
 | a :: r => a ++ r.flatMap fun x => sep ++ x
theorem joinL_snoc (sep : List UInt8) (L : List (List UInt8)) (x : List UInt8) : joinL sep (L ++ [x]) = (if L = [] then [] else joinL sep L ++ sep) ++ x := by
 cases L with
 | nil => simp [joinL]
 | cons a r => simp [joinL, List.flatMap_append]
def wL (k : Nat) (L : List (List UInt8)) : Nat := (L.map fun x => x.length + k).sum
theorem joinL_len (sep : List UInt8) (L : List (List UInt8)) : (joinL sep L).length ≤ wL sep.length L := by
 cases L with
 | nil => simp [joinL, wL]
 | cons a r =>
  have : (r.flatMap fun x => sep ++ x).length = wL sep.length r := by
   induction r with
   | nil => simp [wL]
   | cons b q ih => simp only [List.flatMap_cons, List.length_append, ih, wL, List.map_cons, List.sum_cons]; omega
  simp only [joinL, List.length_append, this, wL, List.map_cons, List.sum_cons]
  omega
theorem wL_take (k : Nat) (L : List (List UInt8)) (i : Nat) : wL k (L.take i) ≤ wL k L := by
 induction L generalizing i with
 | nil => simp
 | cons a r ih =>
  cases i with
  | zero => simp [wL]
  | succ i =>
   have := ih i
   simp only [wL, List.take_succ_cons, List.map_cons, List.sum_cons] at this ⊢
   omega
end Go.Proofs.YtkimpaokepfonaaGreatDoorBv
/- Loops over a list, said once: an invariant, rounds that go on, rounds that end it all. No program is in sight. -/
namespace Go.Proofs.YtkimpaokepfonaaGreatDoorBv
open Go
set_option linter.unusedSimpArgs false
set_option linter.unusedVariables false
theorem rounds {σ β : Type} (F : Nat → σ → Int → Option β) (K : σ → Option β) (n : Nat) (I : Nat → σ → Prop) (E : Option β → Prop)
  (stop : ∀ m s, I n s → F (m + 1) s (n : Int) = K s)
  (step : ∀ s (i : Nat), i < n → I i s → (∃ s', I (i + 1) s' ∧ ∀ m, F (m + 1) s (i : Int) = F m s' ((i + 1 : Nat) : Int)) ∨ ∃ v, E v ∧ ∀ m, F (m + 1) s (i : Int) = v) :
  ∀ (c i : Nat) s, i + c = n → I i s → (∃ s', I n s' ∧ ∀ m, F (m + c + 1) s (i : Int) = K s') ∨ ∃ v, E v ∧ ∀ m, F (m + c + 1) s (i : Int) = v
 | 0, i, s, h, hi => by
  obtain rfl : i = n := by omega
  exact .inl ⟨s, hi, fun m => stop m s hi⟩
 | c + 1, i, s, h, hi => by
  rcases step s i (by omega) hi with ⟨s', h1, h2⟩ | ⟨v, h1, h2⟩
  ·rcases rounds F K n I E stop step c (i + 1) s' (by omega) h1 with ⟨t, a, b⟩ | ⟨v, a, b⟩
   ·exact .inl ⟨t, a, fun m => by rw [show m + (c + 1) + 1 = (m + c + 1) + 1 by omega, h2]; exact b m⟩
   ·exact .inr ⟨v, a, fun m => by rw [show m + (c + 1) + 1 = (m + c + 1) + 1 by omega, h2]; exact b m⟩
  ·exact .inr ⟨v, h1, fun m => h2 (m + (c + 1))⟩
theorem rounds_lim {σ β : Type} (F : Nat → σ → Int → Option β) (K : σ → Option β) (n : Nat) (I : Nat → σ → Prop) (E : Option β → Prop) (s : σ) (h0 : I 0 s)
  (stop : ∀ m s, I n s → F (m + 1) s (n : Int) = K s)
  (step : ∀ s (i : Nat), i < n → I i s → (∃ s', I (i + 1) s' ∧ ∀ m, F (m + 1) s (i : Int) = F m s' ((i + 1 : Nat) : Int)) ∨ ∃ v, E v ∧ ∀ m, F (m + 1) s (i : Int) = v) (hn : n ≤ 4611686018427387903 := by omega) :
  (∃ s', I n s' ∧ limF (fun k => F k s 0) = K s') ∨ ∃ v, E v ∧ limF (fun k => F k s 0) = v := by
 rcases rounds F K n I E stop step n 0 s (by omega) h0 with ⟨t, a, b⟩ | ⟨v, a, b⟩
 ·exact .inl ⟨t, a, limF_add (n + 1) fun m => b m⟩
 ·exact .inr ⟨v, a, limF_add (n + 1) fun m => b m⟩
/-- rounds that all go on -/
theorem rounds_all {σ β : Type} (F : Nat → σ → Int → Option β) (K : σ → Option β) (n : Nat) (I : Nat → σ → Prop) (s : σ) (h0 : I 0 s)
  (stop : ∀ m s, I n s → F (m + 1) s (n : Int) = K s)
  (step : ∀ s (i : Nat), i < n → I i s → ∃ s', I (i + 1) s' ∧ ∀ m, F (m + 1) s (i : Int) = F m s' ((i + 1 : Nat) : Int)) (hn : n ≤ 4611686018427387903 := by omega) :
  ∃ s', I n s' ∧ limF (fun k => F k s 0) = K s' := by
 rcases rounds_lim F K n I (fun _ => False) s h0 stop (fun s i a b => .inl (step s i a b)) with h | ⟨_, h, _⟩
 ·exact h
 ·exact h.elim
theorem wi_next {i n : Nat} (h : i < n) (hn : n ≤ 9223372036854775807) : wi ((i : Int) + 1) = ((i + 1 : Nat) : Int) := by
 rw [wi_id (by omega) (by omega)]; omega
theorem lt_pos {i n : Nat} (h : i < n) : decide ((i : Int) < (n : Int)) = true := by simp only [decide_eq_true_eq]; omega
theorem lt_neg (n : Nat) : ¬ decide ((n : Int) < (n : Int)) = true := by simp
theorem take_succ_get {α : Type} {l : List α} {i : Nat} (h : i < l.length) : l.take (i + 1) = l.take i ++ [l[i]] := by
 rw [List.take_add_one, List.getElem?_eq_getElem h]; rfl
theorem take_all {α : Type} (l : List α) : l.take l.length = l := List.take_length
end Go.Proofs.YtkimpaokepfonaaGreatDoorBv
/- The texts of queries, cut into tokens. No program is in sight. -/
namespace Go.Proofs.YtkimpaokepfonaaGreatDoorBv
open Go
set_option linter.unusedSimpArgs false
set_option linter.unusedVariables false
theorem cutS_nil : cutS [] = [] := rfl
theorem cut_step {s raw rest : List UInt8} {t : TSToken} (he : s = raw ++ rest) (hne : raw ≠ []) (ht : firstS s = t) (hr : t.Raw = raw) : cutS s = t :: cutS rest := by
 have hs : s ≠ [] := by rw [he]; simp [hne]
 have hp := List.length_pos_iff.2 hne
 have hq := List.length_pos_iff.2 hs
 have hlen : s.length = (s.length - 1) + 1 := by omega
 have hl2 : s.length = raw.length + rest.length := by rw [he, List.length_append]
 have hd : s.drop raw.length = rest := by rw [he, List.drop_left]
 unfold cutS
 rw [hlen, cutF, if_neg hs, ht, hr, hd, cutF_more (s.length - 1) rest.length rest (by omega) (Nat.le_refl _)]
def plainB (c : UInt8) : Bool := !isBlank c && !isSign c && !(decide (c = 47) || decide (c = 39) || decide (c = 34) || decide (c = 35) || decide (c = 64) || decide (c = 43) || decide (c = 46) || decide (c = 92))
theorem num_none {c : UInt8} {r : List UInt8} (h1 : isD c = false) (h2 : c ≠ 43) (h3 : c ≠ 45) (h4 : c ≠ 46) : (numS (c :: r)).2 = 0 := by
 have hf : fromN (c :: r) = 0 := by
  show (if c = 43 ∨ c = 45 then 1 else 0) = 0
  rw [if_neg (by simp [h2, h3])]
 simp [numS, hf, List.takeWhile, h1, fracN, h4]
theorem sign_off {c : UInt8} (h : isSign c = false) : isStart c = false ∧ isD c = false ∧ c ≠ 45 := by
 unfold isSign at h
 simp only [Bool.or_eq_false_iff, decide_eq_false_iff_not] at h
 exact ⟨h.1.1, h.1.2, h.2⟩
theorem first_one (c : UInt8) (rest : List UInt8) (h : plainB c = true) : firstS (c :: rest) = ⟨oneS c, [c], [], 0⟩ := by
 unfold plainB at h
 simp only [Bool.and_eq_true, Bool.not_eq_true', Bool.or_eq_false_iff, decide_eq_false_iff_not] at h
 obtain ⟨⟨hb, hs⟩, ⟨⟨⟨⟨⟨⟨h47, h39⟩, h34⟩, h35⟩, h64⟩, h43⟩, h46⟩, h92⟩ := h
 obtain ⟨a1, a2, a3⟩ := sign_off hs
 unfold firstS
 rw [if_neg (by simp [List.takeWhile, hb]), if_neg (by intro h; rw [List.take_succ_cons] at h; exact h47 (List.cons.inj h).1)]
 show tokS c rest = _
 have hbg : beginsS (c :: rest) = false := by
  unfold beginsS
  cases rest with
  | nil => exact a1
  | cons d r => simp [a3, a1, escS, h92]
 unfold tokS
 rw [if_neg (by simp [h39, h34]), if_neg (by simp [h35]), if_neg (by simp [h64]), num_none a2 h43 a3 h46, if_neg (by decide), if_neg (by simp [hbg])]
theorem first_sp (rest : List UInt8) (h : ∀ c r, rest = c :: r → isBlank c = false) : firstS (32 :: rest) = ⟨8, [32], [], 0⟩ := by
 have e : (32 :: rest).takeWhile isBlank = [32] := by
  rw [List.takeWhile_cons_of_pos (by decide)]
  cases rest with
  | nil => rfl
  | cons c r => rw [List.takeWhile_cons_of_neg (by simp [h c r rfl])]
 unfold firstS
 rw [e, if_pos (by simp)]
def Stop (rest : List UInt8) : Prop := ∀ c r, rest = c :: r → isSign c = false ∧ c ≠ 92 ∧ c ≠ 40
theorem name_run (rest : List UInt8) (hr : Stop rest) : ∀ w : List UInt8, (∀ c, c ∈ w → isSign c = true ∧ c ≠ 92) → nameS (w ++ rest) = (w, w.length)
 | [], h => by
  rw [List.nil_append]
  match rest, hr with
  | [], _ => rfl
  | [c], hr => rw [nameS, if_neg (by simp [(hr c [] rfl).1])]; rfl
  | c :: d :: r, hr =>
   obtain ⟨h1, h2, _⟩ := hr c _ rfl
   rw [nameS, if_neg (fun h => h2 h.1), if_neg (by simp [h1])]
   rfl
 | c :: w, h => by
  obtain ⟨h1, h2⟩ := h c (List.mem_cons_self ..)
  have ih := name_run rest hr w fun x hx => h x (List.mem_cons_of_mem _ hx)
  rw [List.cons_append]
  cases hw : w ++ rest with
  | nil =>
   rw [hw] at ih
   have : w = [] := (List.append_eq_nil_iff.1 hw).1
   subst this
   rw [nameS, if_pos h1]
   rfl
  | cons d r =>
   rw [hw] at ih
   rw [nameS, if_neg (fun h => h2 h.1), if_pos h1, ih]
   simp only [addN, List.cons_append, List.nil_append, List.length_cons, Nat.add_comm]
theorem start_facts (c : UInt8) (h : isStart c = true) : isBlank c = false ∧ isSign c = true ∧ isD c = false ∧ c ≠ 47 ∧ c ≠ 39 ∧ c ≠ 34 ∧ c ≠ 35 ∧ c ≠ 64 ∧ c ≠ 43 ∧ c ≠ 45 ∧ c ≠ 46 ∧ c ≠ 92 := by
 have := u8_all (p := fun c => !isStart c || (!isBlank c && isSign c && !isD c && !(decide (c = 47) || decide (c = 39) || decide (c = 34) || decide (c = 35) || decide (c = 64) || decide (c = 43) || decide (c = 45) || decide (c = 46) || decide (c = 92)))) (by decide +kernel) c
 simp only [h, Bool.not_true, Bool.false_or, Bool.and_eq_true, Bool.not_eq_true', Bool.or_eq_false_iff, decide_eq_false_iff_not] at this
 obtain ⟨⟨⟨a, b⟩, c1⟩, ⟨⟨⟨⟨⟨⟨⟨⟨d1, d2⟩, d3⟩, d4⟩, d5⟩, d6⟩, d7⟩, d8⟩, d9⟩⟩ := this
 exact ⟨a, b, c1, d1, d2, d3, d4, d5, d6, d7, d8, d9⟩
theorem first_start {c : UInt8} {r : List UInt8} (h : isStart c = true) : firstS (c :: r) = nameT (c :: r) := by
 obtain ⟨hb, hs, hd, h47, h39, h34, h35, h64, h43, h45, h46, h92⟩ := start_facts c h
 unfold firstS
 rw [if_neg (by simp [List.takeWhile, hb]), if_neg (by intro h; rw [List.take_succ_cons] at h; exact h47 (List.cons.inj h).1)]
 show tokS c r = _
 have hbg : beginsS (c :: r) = true := by
  unfold beginsS
  cases r with
  | nil => exact h
  | cons d r => simp [h45, h]
 unfold tokS
 rw [if_neg (by simp [h39, h34]), if_neg (by simp [h35]), if_neg (by simp [h64]), num_none hd h43 h45 h46, if_neg (by decide), if_pos hbg]
def wordB (w : List UInt8) : Bool := match w with
 | [] => false
 | c :: r => isStart c && r.all fun d => isSign d && !decide (d = 92)
theorem word_all {w : List UInt8} (h : wordB w = true) : (∀ c, c ∈ w → isSign c = true ∧ c ≠ 92) ∧ ∃ c r, w = c :: r ∧ isStart c = true := by
 match w, h with
 | c :: r, h =>
  simp only [wordB, Bool.and_eq_true, List.all_eq_true, Bool.not_eq_true', decide_eq_false_iff_not] at h
  have hf := start_facts c h.1
  refine ⟨fun x hx => ?_, c, r, rfl, h.1⟩
  rcases List.mem_cons.1 hx with rfl | hx
  ·exact ⟨hf.2.1, hf.2.2.2.2.2.2.2.2.2.2.2⟩
  ·exact h.2 x hx
theorem first_word {w rest : List UInt8} (h : wordB w = true) (hr : Stop rest) : firstS (w ++ rest) = ⟨1, w, w, 0⟩ := by
 obtain ⟨ha, c, r, rfl, hc⟩ := word_all h
 have hn := name_run rest hr _ ha
 rw [List.cons_append, first_start hc, ← List.cons_append]
 unfold nameT
 rw [hn]
 show (if ((c :: r ++ rest).drop (c :: r).length).head? = some 40 then _ else _) = _
 rw [List.drop_left, if_neg, List.take_left]
 intro h
 cases rest with
 | nil => cases h
 | cons d q => exact (hr d q rfl).2.2 (Option.some.inj h)
theorem first_px {w rest : List UInt8} (h : ∀ c, c ∈ w → isD c = true) (hw : w ≠ []) : ∃ n, firstS (w ++ 112 :: 120 :: 41 :: rest) = ⟨7, w ++ [112, 120], [112, 120], n⟩ := by
 obtain ⟨c, r, rfl⟩ := List.exists_cons_of_ne_nil hw
 have hc := h c (List.mem_cons_self ..)
 have hf : isBlank c = false ∧ c ≠ 47 ∧ c ≠ 39 ∧ c ≠ 34 ∧ c ≠ 35 ∧ c ≠ 64 ∧ c ≠ 43 ∧ c ≠ 45 := by
  have := u8_all (p := fun c => !isD c || (!isBlank c && !(decide (c = 47) || decide (c = 39) || decide (c = 34) || decide (c = 35) || decide (c = 64) || decide (c = 43) || decide (c = 45)))) (by decide +kernel) c
  simp only [hc, Bool.not_true, Bool.false_or, Bool.and_eq_true, Bool.not_eq_true', Bool.or_eq_false_iff, decide_eq_false_iff_not] at this
  obtain ⟨a, ⟨⟨⟨⟨⟨⟨d1, d2⟩, d3⟩, d4⟩, d5⟩, d6⟩, d7⟩⟩ := this
  exact ⟨a, d1, d2, d3, d4, d5, d6, d7⟩
 obtain ⟨hb, h47, h39, h34, h35, h64, h43, h45⟩ := hf
 have htw : (c :: r ++ 112 :: 120 :: 41 :: rest).takeWhile isD = c :: r := by
  rw [List.takeWhile_append_of_pos (by exact h), List.takeWhile_cons_of_neg (by decide), List.append_nil]
 have hfr : fromN (c :: r ++ 112 :: 120 :: 41 :: rest) = 0 := by
  show (if c = 43 ∨ c = 45 then 1 else 0) = 0
  rw [if_neg (by simp [h43, h45])]
 have hn : ∃ n, numS (c :: r ++ 112 :: 120 :: 41 :: rest) = (n, (((c :: r).length : Nat) : Int)) := by
  unfold numS
  simp only [hfr, List.drop_zero, htw, List.drop_left, fracN, if_neg (show ¬ ((112 : UInt8) = 46) by decide), List.length_nil, List.length_cons]
  rw [if_neg (by omega)]
  refine ⟨_, Prod.ext rfl ?_⟩
  simp
 obtain ⟨n, hn⟩ := hn
 refine ⟨n, ?_⟩
 have e : firstS (c :: r ++ 112 :: 120 :: 41 :: rest) = tokS c (r ++ 112 :: 120 :: 41 :: rest) := by
  rw [List.cons_append]
  unfold firstS
  rw [if_neg (by simp [List.takeWhile, hb]), if_neg (by intro h; rw [List.take_succ_cons] at h; exact h47 (List.cons.inj h).1)]
 rw [e]
 unfold tokS
 rw [if_neg (by simp [h39, h34]), if_neg (by simp [h35]), if_neg (by simp [h64])]
 rw [List.cons_append] at hn
 rw [hn, if_pos (by simp), Int.toNat_natCast, ← List.cons_append]
 unfold numberS
 rw [List.drop_left]
 show (if (112 : UInt8) = 37 then _ else if beginsS (112 :: 120 :: 41 :: rest) = true then _ else _) = _
 have hp : nameS (112 :: 120 :: 41 :: rest) = ([112, 120], 2) := name_run (41 :: rest) (by rintro c r h; cases h; decide) [112, 120] (by decide)
 rw [if_neg (by decide), if_pos (by rfl), hp]
 have ht : (c :: r ++ 112 :: 120 :: 41 :: rest).take ((c :: r).length + 2) = c :: r ++ [112, 120] := by
  rw [List.take_length_add_append]
  rfl
 rw [ht]
 rfl
abbrev AND : List UInt8 := [32, 97, 110, 100, 32]
abbrev COM : List UInt8 := [44, 32]
abbrev NOT : List UInt8 := [110, 111, 116, 32]
def tkW (w : List UInt8) : TSToken := ⟨1, w, w, 0⟩
def tkO (c : UInt8) : TSToken := ⟨oneS c, [c], [], 0⟩
def tkS : TSToken := ⟨8, [32], [], 0⟩
def tkN (w : List UInt8) (n : Int) : TSToken := ⟨7, w ++ [112, 120], [112, 120], n⟩
def kwX (k : Int) : List UInt8 :=
 if k = 1 then [97, 108, 108] else if k = 2 then [115, 99, 114, 101, 101, 110] else if k = 3 then [112, 114, 105, 110, 116]
 else if k = 4 then [109, 105, 110, 45, 119, 105, 100, 116, 104] else if k = 5 then [109, 97, 120, 45, 119, 105, 100, 116, 104]
 else if k = 6 then [109, 105, 110, 45, 104, 101, 105, 103, 104, 116] else if k = 7 then [109, 97, 120, 45, 104, 101, 105, 103, 104, 116]
 else if k = 8 ∨ k = 9 then [112, 114, 101, 102, 101, 114, 115, 45, 99, 111, 108, 111, 114, 45, 115, 99, 104, 101, 109, 101] else [111, 114, 105, 101, 110, 116, 97, 116, 105, 111, 110]
def vwX (k : Int) : List UInt8 :=
 if k = 8 then [100, 97, 114, 107] else if k = 9 then [108, 105, 103, 104, 116] else if k = 10 then [112, 111, 114, 116, 114, 97, 105, 116] else [108, 97, 110, 100, 115, 99, 97, 112, 101]
def ftX (k : Int) (ds : List UInt8) : List UInt8 :=
 if k ≤ 3 then kwX k else if k ≤ 7 then 40 :: (kwX k ++ 58 :: 32 :: (ds ++ [112, 120, 41])) else if k ≤ 11 then 40 :: (kwX k ++ 58 :: 32 :: (vwX k ++ [41])) else [40, 63, 41]
theorem cut_W {w rest : List UInt8} (h : wordB w = true) (hr : Stop rest) : cutS (w ++ rest) = tkW w :: cutS rest :=
 cut_step rfl (by intro e; rw [e] at h; cases h) (first_word h hr) rfl
theorem cut_O (c : UInt8) (rest : List UInt8) (h : plainB c = true) : cutS (c :: rest) = tkO c :: cutS rest :=
 cut_step (raw := [c]) rfl (by simp) (first_one c rest h) rfl
theorem cut_S (rest : List UInt8) (h : ∀ c r, rest = c :: r → isBlank c = false) : cutS (32 :: rest) = tkS :: cutS rest :=
 cut_step (raw := [32]) rfl (by simp) (first_sp rest h) rfl
theorem cut_N {w rest : List UInt8} (h : ∀ c, c ∈ w → isD c = true) (hw : w ≠ []) : ∃ n, cutS (w ++ 112 :: 120 :: 41 :: rest) = tkN w n :: cutS (41 :: rest) := by
 obtain ⟨n, hn⟩ := first_px (rest := rest) h hw
 exact ⟨n, cut_step (raw := w ++ [112, 120]) (by simp) (by simp) hn rfl⟩
/-- what may stand behind a feature -/
def Soft (rest : List UInt8) : Prop := ∀ c r, rest = c :: r → c = 32 ∨ c = 44
theorem Soft.stop {rest : List UInt8} (h : Soft rest) : Stop rest := by
 intro c r e
 rcases h c r e with rfl | rfl <;> decide
/-- the tokens of a feature, without blanks -/
def FeatT (k : Int) (ds : List UInt8) (l : List TSToken) : Prop :=
 if k ≤ 3 then l = [tkW (kwX k)] else if k ≤ 7 then ∃ n, l = [tkO 40, tkW (kwX k), tkO 58, tkN ds n, tkO 41] else if k ≤ 11 then l = [tkO 40, tkW (kwX k), tkO 58, tkW (vwX k), tkO 41] else l = [tkO 40, tkO 63, tkO 41]
def solidB (t : TSToken) : Bool := !(decide (t.Kind = 8) || decide (t.Kind = 9))
theorem kw_word (k : Int) : wordB (kwX k) = true := by
 unfold kwX
 repeat' split
 all_goals decide
theorem vw_word (k : Int) : wordB (vwX k) = true := by
 unfold vwX
 repeat' split
 all_goals decide
theorem word_nb {w r : List UInt8} (h : wordB w = true) : ∀ c q, w ++ r = c :: q → isBlank c = false := by
 obtain ⟨_, c0, r0, rfl, hc⟩ := word_all h
 intro c q e
 cases e
 exact (start_facts _ hc).1
theorem dig_nb {w r : List UInt8} (h : ∀ c, c ∈ w → isD c = true) (hw : w ≠ []) : ∀ c q, w ++ r = c :: q → isBlank c = false := by
 obtain ⟨c0, r0, rfl⟩ := List.exists_cons_of_ne_nil hw
 intro c q e
 cases e
 have := u8_all (p := fun c => !isD c || !isBlank c) (by decide +kernel) c0
 simpa [h c0 (List.mem_cons_self ..)] using this
theorem feat_cut {k : Int} {ds : List UInt8} (h : ∀ c, c ∈ ds → isD c = true) (hw : ds ≠ []) (rest : List UInt8) (hr : Soft rest) : ∃ ts, FeatT k ds (ts.filter solidB) ∧ cutS (ftX k ds ++ rest) = ts ++ cutS rest := by
 have s58 : ∀ r : List UInt8, Stop (58 :: r) := by intro r c q e; cases e; decide
 have s41 : ∀ r : List UInt8, Stop (41 :: r) := by intro r c q e; cases e; decide
 unfold ftX FeatT
 by_cases h3 : k ≤ 3
 ·simp only [if_pos h3]
  exact ⟨[tkW (kwX k)], rfl, cut_W (kw_word k) hr.stop⟩
 ·simp only [if_neg h3]
  by_cases h7 : k ≤ 7
  ·simp only [if_pos h7]
   obtain ⟨n, hn⟩ := cut_N (rest := rest) h hw
   refine ⟨[tkO 40, tkW (kwX k), tkO 58, tkS, tkN ds n, tkO 41], ⟨_, rfl⟩, ?_⟩
   rw [List.cons_append, List.append_assoc, List.cons_append, List.cons_append, List.append_assoc]
   rw [cut_O 40 _ (by decide), cut_W (kw_word k) (s58 _), cut_O 58 _ (by decide), cut_S _ (dig_nb h hw)]
   show _ :: _ :: _ :: _ :: cutS (ds ++ 112 :: 120 :: 41 :: rest) = _
   rw [hn, cut_O 41 _ (by decide)]
   rfl
  ·simp only [if_neg h7]
   by_cases h11 : k ≤ 11
   ·simp only [if_pos h11]
    refine ⟨[tkO 40, tkW (kwX k), tkO 58, tkS, tkW (vwX k), tkO 41], rfl, ?_⟩
    rw [List.cons_append, List.append_assoc, List.cons_append, List.cons_append, List.append_assoc]
    rw [cut_O 40 _ (by decide), cut_W (kw_word k) (s58 _), cut_O 58 _ (by decide), cut_S _ (word_nb (vw_word k))]
    show _ :: _ :: _ :: _ :: cutS (vwX k ++ 41 :: rest) = _
    rw [cut_W (vw_word k) (s41 _), cut_O 41 _ (by decide)]
    rfl
   ·simp only [if_neg h11]
    refine ⟨[tkO 40, tkO 63, tkO 41], rfl, ?_⟩
    show cutS (40 :: 63 :: 41 :: rest) = _
    rw [cut_O 40 _ (by decide), cut_O 63 _ (by decide), cut_O 41 _ (by decide)]
    rfl
theorem ft_nb (k : Int) (ds r : List UInt8) : ∀ c q, ftX k ds ++ r = c :: q → isBlank c = false := by
 unfold ftX
 split
 ·exact word_nb (kw_word k)
 ·repeat' split
  all_goals
   intro c q e
   cases e
   decide
abbrev FeatX := Int × List UInt8
def DigX (f : FeatX) : Prop := (∀ c, c ∈ f.2 → isD c = true) ∧ f.2 ≠ []
def FeatsT : List FeatX → List TSToken → Prop
 | [], _ => False
 | [f], l => FeatT f.1 f.2 l
 | f :: g :: r, l => ∃ a b, l = a ++ tkW [97, 110, 100] :: b ∧ FeatT f.1 f.2 a ∧ FeatsT (g :: r) b
theorem joinL_two (sep a b : List UInt8) (r : List (List UInt8)) : joinL sep (a :: b :: r) = a ++ (sep ++ joinL sep (b :: r)) := by
 simp [joinL]
theorem joinL_one (sep a : List UInt8) : joinL sep [a] = a := by simp [joinL]
theorem feats_nb (f : FeatX) (fs : List FeatX) (r : List UInt8) : ∀ c q, joinL AND ((f :: fs).map fun f => ftX f.1 f.2) ++ r = c :: q → isBlank c = false := by
 intro c q e
 simp only [List.map_cons, joinL, List.append_assoc] at e
 exact ft_nb _ _ _ c q e
theorem feats_cut : ∀ (fs : List FeatX), fs ≠ [] → (∀ f, f ∈ fs → DigX f) → ∀ rest, (∀ c r, rest = c :: r → c = 44) → ∃ ts, FeatsT fs (ts.filter solidB) ∧ cutS (joinL AND (fs.map fun f => ftX f.1 f.2) ++ rest) = ts ++ cutS rest
 | [], h, _, _, _ => absurd rfl h
 | [f], _, h, rest, hr => by
  have hf := h f (List.mem_cons_self ..)
  simp only [List.map_cons, List.map_nil, joinL_one]
  exact feat_cut hf.1 hf.2 rest fun c r e => .inr (hr c r e)
 | f :: g :: r, _, h, rest, hr => by
  have hf := h f (List.mem_cons_self ..)
  obtain ⟨b, hb, eb⟩ := feats_cut (g :: r) (by simp) (fun x hx => h x (List.mem_cons_of_mem _ hx)) rest hr
  have e1 : joinL AND ((f :: g :: r).map fun f => ftX f.1 f.2) ++ rest = ftX f.1 f.2 ++ (32 :: ([97, 110, 100] ++ 32 :: (joinL AND ((g :: r).map fun f => ftX f.1 f.2) ++ rest))) := by
   simp only [List.map_cons, joinL_two, List.append_assoc]
   rfl
  obtain ⟨a, ha, ea⟩ := feat_cut (k := f.1) hf.1 hf.2 (32 :: ([97, 110, 100] ++ 32 :: (joinL AND ((g :: r).map fun f => ftX f.1 f.2) ++ rest))) (by intro c r e; cases e; exact .inl rfl)
  rw [e1, ea, cut_S _ (by intro c q e; cases e; decide), cut_W (by decide) (by intro c q e; cases e; decide), cut_S _ (feats_nb g r rest), eb]
  refine ⟨a ++ tkS :: tkW [97, 110, 100] :: tkS :: b, ⟨a.filter solidB, b.filter solidB, ?_, ha, hb⟩, by simp⟩
  rw [List.filter_append]
  rfl
structure QryX where
 nt : Bool
 fs : List FeatX
def qryX (q : QryX) : List UInt8 := (if q.nt then NOT else []) ++ joinL AND (q.fs.map fun f => ftX f.1 f.2)
def QryT (q : QryX) (l : List TSToken) : Prop := if q.nt then ∃ b, l = tkW [110, 111, 116] :: b ∧ FeatsT q.fs b else FeatsT q.fs l
def QryOK (q : QryX) : Prop := q.fs ≠ [] ∧ ∀ f, f ∈ q.fs → DigX f
theorem qry_cut (q : QryX) (h : QryOK q) (rest : List UInt8) (hr : ∀ c r, rest = c :: r → c = 44) : ∃ ts, QryT q (ts.filter solidB) ∧ cutS (qryX q ++ rest) = ts ++ cutS rest := by
 obtain ⟨b, hb, eb⟩ := feats_cut q.fs h.1 h.2 rest hr
 unfold QryT qryX
 cases q.nt with
 | false => exact ⟨b, hb, eb⟩
 | true =>
  simp only [if_true]
  have e1 : NOT ++ joinL AND (q.fs.map fun f => ftX f.1 f.2) ++ rest = [110, 111, 116] ++ 32 :: (joinL AND (q.fs.map fun f => ftX f.1 f.2) ++ rest) := by
   rw [List.append_assoc]
   rfl
  obtain ⟨f, r, hfr⟩ := List.exists_cons_of_ne_nil h.1
  rw [e1, cut_W (by decide) (by intro c q e; cases e; decide), cut_S _ (by rw [hfr]; exact feats_nb f r rest), eb]
  exact ⟨tkW [110, 111, 116] :: tkS :: b, ⟨_, rfl, hb⟩, rfl⟩
theorem qry_nb (q : QryX) (h : QryOK q) (rest : List UInt8) : ∀ c r, qryX q ++ rest = c :: r → isBlank c = false := by
 unfold qryX
 cases q.nt with
 | true => intro c r e; cases e; decide
 | false =>
  obtain ⟨f, r, hfr⟩ := List.exists_cons_of_ne_nil h.1
  simp only [hfr]
  exact feats_nb f r rest
def QrysT : List QryX → List TSToken → Prop
 | [], _ => False
 | [q], l => QryT q l
 | q :: p :: r, l => ∃ a b, l = a ++ tkO 44 :: b ∧ QryT q a ∧ QrysT (p :: r) b
theorem qrys_cut : ∀ (qs : List QryX), qs ≠ [] → (∀ q, q ∈ qs → QryOK q) → QrysT qs ((cutS (joinL COM (qs.map qryX))).filter solidB)
 | [], h, _ => absurd rfl h
 | [q], _, h => by
  obtain ⟨ts, ht, et⟩ := qry_cut q (h q (List.mem_cons_self ..)) [] (by intro c r e; cases e)
  rw [List.append_nil, cutS_nil, List.append_nil] at et
  simp only [List.map_cons, List.map_nil, joinL_one]
  rw [et]
  exact ht
 | q :: p :: r, _, h => by
  have ih := qrys_cut (p :: r) (by simp) fun x hx => h x (List.mem_cons_of_mem _ hx)
  have hq := h q (List.mem_cons_self ..)
  have hp := h p (List.mem_cons_of_mem _ (List.mem_cons_self ..))
  have e1 : joinL COM ((q :: p :: r).map qryX) = qryX q ++ (44 :: 32 :: joinL COM ((p :: r).map qryX)) := by
   simp only [List.map_cons, joinL_two]
   rfl
  obtain ⟨a, ha, ea⟩ := qry_cut q hq (44 :: 32 :: joinL COM ((p :: r).map qryX)) (by intro c r e; cases e; rfl)
  have hnb : ∀ c z, joinL COM ((p :: r).map qryX) = c :: z → isBlank c = false := by
   intro c z e
   simp only [List.map_cons, joinL] at e
   exact qry_nb p hp _ c z e
  rw [e1, ea, cut_O 44 _ (by decide), cut_S _ hnb]
  refine ⟨a.filter solidB, _, ?_, ha, ih⟩
  rw [List.filter_append]
  rfl
end Go.Proofs.YtkimpaokepfonaaGreatDoorBv
/- Decimal digits, written, read and cut off. No program is in sight. -/
namespace Go.Proofs.YtkimpaokepfonaaGreatDoorBv
open Go
set_option linter.unusedSimpArgs false
set_option linter.unusedVariables false
theorem ofNat_dig {m : Nat} (h : m < 10) : (UInt8.ofNat (48 + m)).toNat = 48 + m := by
 rw [UInt8.toNat_ofNat']
 omega
theorem dec_digits : ∀ (m : Nat), (Lib.decDigits m).all isD = true := by
 intro m
 induction m using Nat.strongRecOn with
 | _ m ih =>
  rw [Lib.decDigits]
  split
  ·rename_i h
   have := ofNat_dig h
   simp only [List.all_cons, List.all_nil, Bool.and_true, isD, this, Bool.and_eq_true, decide_eq_true_eq]
   omega
  ·have := ofNat_dig (show m % 10 < 10 by omega)
   rw [List.all_append, ih (m / 10) (by omega)]
   simp only [List.all_cons, List.all_nil, Bool.and_true, Bool.true_and, isD, this, Bool.and_eq_true, decide_eq_true_eq]
   omega
theorem dec_len : ∀ (k m : Nat), m < 10 ^ (k + 1) → (Lib.decDigits m).length ≤ k + 1
 | 0, m, h => by
  rw [Lib.decDigits, dif_pos (by omega)]
  simp
 | k + 1, m, h => by
  rw [Lib.decDigits]
  split
  ·simp
  ·rw [List.length_append]
   have := dec_len k (m / 10) (by rw [Nat.pow_succ] at h; omega)
   simp
   omega
theorem dec_ne (m : Nat) : Lib.decDigits m ≠ [] := by
 rw [Lib.decDigits]
 split <;> simp
theorem parse_app : ∀ (a b : List UInt8) (acc : Nat), Lib.parseUint10 acc (a ++ b) = match Lib.parseUint10 acc a with | .ok v => Lib.parseUint10 v b | .syntax => .syntax | .range => .range
 | [], b, acc => rfl
 | c :: r, b, acc => by
  rw [List.cons_append, Lib.parseUint10, Lib.parseUint10]
  split
  ·split
   ·rfl
   ·split
    ·rfl
    ·exact parse_app r b _
  ·rfl
theorem parse_dec : ∀ (m : Nat), m < 1000000000000 → Lib.parseUint10 0 (Lib.decDigits m) = .ok m := by
 intro m
 induction m using Nat.strongRecOn with
 | _ m ih =>
  intro hm
  rw [Lib.decDigits]
  split
  ·rename_i h
   have := ofNat_dig h
   rw [Lib.parseUint10, this, if_pos (by omega), if_neg (by omega), if_neg (by omega), Lib.parseUint10]
   congr 1
   omega
  ·have := ofNat_dig (show m % 10 < 10 by omega)
   rw [parse_app, ih (m / 10) (by omega) (by omega)]
   simp only
   rw [Lib.parseUint10, this, if_pos (by omega), if_neg (by omega), if_neg (by omega), Lib.parseUint10]
   congr 1
   omega
theorem dec_isD (m : Nat) : ∀ c, c ∈ Lib.decDigits m → isD c = true := List.all_eq_true.1 (dec_digits m)
theorem atoi_dec (n : Nat) (h : n ≤ 1000000) : atoi? (Lib.decDigits n) = some ((n : Int), false) := by
 have hp := parse_dec n (by omega)
 have hl := dec_len 6 n (by omega)
 have ha : Lib.atoiAll (Lib.decDigits n) = .ok (n : Int) := by
  cases hd : Lib.decDigits n with
  | nil => exact absurd hd (dec_ne _)
  | cons c r =>
   have hh : 48 ≤ c.toNat ∧ c.toNat ≤ 57 := by
    have := dec_isD n c (by rw [hd]; exact List.mem_cons_self ..)
    unfold isD at this
    simpa using this
   unfold Lib.atoiAll
   simp only
   rw [if_neg (by omega), ← hd]
   unfold Lib.parseMag
   rw [if_neg (dec_ne _), hp]
   simp only
   rw [if_neg (by omega), if_neg (by omega), if_neg (by omega)]
 unfold atoi?
 rw [if_pos (by omega), ha]
theorem isD_in (c : UInt8) : ([48, 49, 50, 51, 52, 53, 54, 55, 56, 57] : List UInt8).contains c = isD c := by
 have := u8_all (p := fun c => ([48, 49, 50, 51, 52, 53, 54, 55, 56, 57] : List UInt8).contains c == isD c) (by decide +kernel) c
 simpa using this
theorem drop_all {p : UInt8 → Bool} : ∀ l : List UInt8, (∀ c, c ∈ l → p c = true) → l.dropWhile p = []
 | [], _ => rfl
 | c :: r, h => by rw [List.dropWhile_cons_of_pos (h c (List.mem_cons_self ..))]; exact drop_all r fun x hx => h x (List.mem_cons_of_mem _ hx)
theorem trim_digits (ds : List UInt8) (hl : ds.length ≤ 1000000) (h : ∀ c, c ∈ ds → isD c = true) : trim? ds [48, 49, 50, 51, 52, 53, 54, 55, 56, 57] = some [] := by
 have e : ds.reverse.dropWhile (([48, 49, 50, 51, 52, 53, 54, 55, 56, 57] : List UInt8).contains ·) = [] := drop_all _ fun c hc => by
  rw [isD_in]
  exact h c (List.mem_reverse.1 hc)
 unfold trim?
 rw [if_pos ⟨by omega, by decide, by decide⟩]
 unfold Lib.trimS Lib.trimRightS
 rw [e]
 rfl
end Go.Proofs.YtkimpaokepfonaaGreatDoorBv
/- Told queries are read as they are: media.Read and media.Holds on the document's text. No program is in sight. -/
namespace Go.Proofs.YtkimpaokepfonaaGreatDoorBv
open Go
set_option linter.unusedSimpArgs false
set_option linter.unusedVariables false
def midB (t : TSToken) : Prop := t.Kind ≠ 10 ∧ t.Kind ≠ 2 ∧ t.Kind ≠ 11
theorem end_mid (mid rest : List TSToken) (hm : ∀ t, t ∈ mid → midB t) (hl : mid.length ≤ 1000000) (mp : List (Int × Int)) (K : Unit → Option Int) : ∀ (N j : Nat), mid.length - j < N → j ≤ mid.length → Zh (tkO 40 :: (mid ++ tkO 41 :: rest)) mp K N [41] ((j + 1 : Nat) : Int) = some ((mid.length + 2 : Nat) : Int)
 | 0, j, h, _ => by omega
 | N + 1, j, h, hj => by
  have hlen : (tkO 40 :: (mid ++ tkO 41 :: rest)).length = mid.length + rest.length + 2 := by simp; omega
  have w1 : wi (((j + 1 : Nat) : Int) + 1) = ((j + 1 + 1 : Nat) : Int) := by rw [wi_id (by omega) (by omega)]; omega
  rw [Zh, if_pos (by rw [hlen]; simp only [decide_eq_true_eq]; omega)]
  by_cases hlt : j < mid.length
  ·have hat : at? (tkO 40 :: (mid ++ tkO 41 :: rest)) ((j + 1 : Nat) : Int) = some mid[j] := by
    rw [at_nat, List.getElem?_cons_succ, List.getElem?_append_left hlt, List.getElem?_eq_getElem hlt]
   obtain ⟨h10, h2, h11⟩ := hm _ (List.getElem_mem hlt)
   rw [hat, Option.bind_some, if_neg (by simpa using h10)]
   unfold Z1d
   rw [if_neg (by simpa using h2), if_neg (by simpa using h11)]
   unfold Zv
   rw [if_neg (by simp), w1]
   exact end_mid mid rest hm hl mp K N (j + 1) (by omega) (by omega)
  ·obtain rfl : j = mid.length := by omega
   have hat : at? (tkO 40 :: (mid ++ tkO 41 :: rest)) ((mid.length + 1 : Nat) : Int) = some (tkO 41) := by
    rw [at_nat, List.getElem?_cons_succ, List.getElem?_append_right (Nat.le_refl _), Nat.sub_self]
    rfl
   have e1 : at? (tkO 41).Raw 0 = some 41 := rfl
   have e2 : at? [(41 : Int)] (wi ((([(41 : Int)] : List Int).length : Int) - 1)) = some 41 := rfl
   have e3 : sub? [(41 : Int)] 0 (wi ((([(41 : Int)] : List Int).length : Int) - 1)) = some [] := rfl
   rw [hat, Option.bind_some, if_neg (by decide)]
   unfold Z1d
   rw [if_neg (by decide), if_pos (by decide), e1, Option.bind_some, e2, Option.bind_some, if_pos (by decide), e3, Option.bind_some]
   unfold Zv
   rw [if_pos (by decide), w1]
theorem end_eq (mid rest : List TSToken) (hm : ∀ t, t ∈ mid → midB t) (hl : mid.length ≤ 1000000) : Z1x (tkO 40 :: (mid ++ tkO 41 :: rest)) = some ((mid.length + 2 : Nat) : Int) := by
 unfold Z1x
 simp only [letIn_eq]
 refine limF_of (mid.length + 2) fun k hk => ?_
 obtain ⟨m, rfl⟩ : ∃ m, k = m + 1 := ⟨k - 1, by omega⟩
 have e0 : at? (tkO 40 :: (mid ++ tkO 41 :: rest)) 0 = some (tkO 40) := rfl
 have e1 : at? (tkO 40).Raw (wi (((tkO 40).Raw.length : Int) - 1)) = some 40 := rfl
 rw [Zh, if_pos (by simp; omega), e0, Option.bind_some, if_pos (by decide)]
 unfold Z1d
 rw [if_pos (by decide), e1, Option.bind_some]
 have e2 : app? 1 ([] : List Int) [((mget (mset (mset (mset ([] : List (Int × Int)) 40 41) 91 93) 123 125) (((40 : UInt8).toNat : Nat) : Int)).getD (0 : Int))] = some [41] := rfl
 rw [e2, Option.bind_some]
 unfold Zv
 rw [if_neg (by decide)]
 exact end_mid mid rest hm hl _ _ m 0 (by omega) (by omega)
set_option maxRecDepth 100000 in
theorem word_kw (k : Int) : Zc (tkW (kwX k)) = some (kwX k) := by
 unfold kwX
 repeat' split
 all_goals kernel_rfl
theorem kw_not (k : Int) : kwX k ≠ [110, 111, 116] := by
 unfold kwX
 repeat' split
 all_goals decide
theorem kw_open (k : Int) : kwX k ≠ [40] := by
 unfold kwX
 repeat' split
 all_goals decide
set_option maxRecDepth 100000 in
theorem kind_kw (k : Int) (h1 : 1 ≤ k) (h7 : k ≤ 7) : Z1f (kwX k) = some k := by
 rcases (show k = 1 ∨ k = 2 ∨ k = 3 ∨ k = 4 ∨ k = 5 ∨ k = 6 ∨ k = 7 by omega) with e | e | e | e | e | e | e <;> subst e <;> kernel_rfl
set_option maxRecDepth 100000 in
theorem word_open : Zc (tkO 40) = some [] := by kernel_rfl
set_option maxRecDepth 100000 in
theorem word_and : Zc (tkW [97, 110, 100]) = some [97, 110, 100] := by kernel_rfl
set_option maxRecDepth 100000 in
theorem word_no : Zc (tkW [110, 111, 116]) = some [110, 111, 116] := by kernel_rfl
set_option maxRecDepth 100000 in
theorem kind_nil : Z1f [] = some 12 := by kernel_rfl
set_option maxRecDepth 100000 in
theorem feature_word (k : Int) (h8 : 8 ≤ k) (h11 : k ≤ 11) : Zw [tkW (kwX k), tkO 58, tkW (vwX k)] = some ⟨k, 0⟩ := by
 rcases (show k = 8 ∨ k = 9 ∨ k = 10 ∨ k = 11 by omega) with e | e | e | e <;> subst e <;> kernel_rfl
set_option maxRecDepth 100000 in
theorem feature_none : Zw [tkO 63] = some ⟨12, 0⟩ := by kernel_rfl
abbrev DIG : List UInt8 := [48, 49, 50, 51, 52, 53, 54, 55, 56, 57]
def NumX (ds : List UInt8) (v : Int) : Prop := trim? ds DIG = some [] ∧ atoi? ds = some (v, false) ∧ v ≤ 1000000 ∧ ds.length ≤ 100
theorem feature_sized {k : Int} (h4 : 4 ≤ k) (h7 : k ≤ 7) {ds : List UInt8} {n v : Int} (hn : NumX ds v) : Zw [tkW (kwX k), tkO 58, tkN ds n] = some ⟨k, v⟩ := by
 obtain ⟨t1, t2, t3, t4⟩ := hn
 have e0 : at? [tkW (kwX k), tkO 58, tkN ds n] 0 = some (tkW (kwX k)) := rfl
 have e1 : at? [tkW (kwX k), tkO 58, tkN ds n] 1 = some (tkO 58) := rfl
 have e2 : at? [tkW (kwX k), tkO 58, tkN ds n] 2 = some (tkN ds n) := rfl
 have e3 : sub? (tkN ds n).Raw 0 (wi (((tkN ds n).Raw.length : Int) - 2)) = some ds := by
  show sub? (ds ++ [112, 120]) 0 (wi (((ds ++ [112, 120]).length : Int) - 2)) = some ds
  have hw : wi (((ds ++ [112, 120]).length : Int) - 2) = (ds.length : Int) := by
   rw [List.length_append, show ([112, 120] : List UInt8).length = 2 from rfl, wi_id (by omega) (by omega)]; omega
  rw [hw, sub_take (by simp), List.take_left]
 unfold Zw
 rw [if_neg (by simp), e1, Option.bind_some]
 show Z1z _ false = _
 unfold Z1z
 rw [if_neg (by decide), e0, Option.bind_some, word_kw, Option.bind_some, kind_kw k (by omega) h7, Option.bind_some, if_pos (by simp only [Bool.and_eq_true, decide_eq_true_eq]; omega), e2, Option.bind_some, if_neg (by simp [tkN]), e3, Option.bind_some]
 show (trim? ds DIG).bind _ = _
 rw [t1, Option.bind_some]
 show Z1y _ _ false = _
 unfold Z1y
 rw [if_neg (by decide), e3, Option.bind_some]
 show (atoi? ds).bind _ = _
 rw [t2, Option.bind_some, if_neg (by simp only [Bool.false_or, decide_eq_true_eq]; omega)]
def FOK (f : TSFeature) (x : FeatX) : Prop := x.1 = f.Kind ∧ 1 ≤ f.Kind ∧ f.Kind ≤ 12 ∧ (4 ≤ f.Kind ∧ f.Kind ≤ 7 → NumX x.2 f.Num) ∧ (¬ (4 ≤ f.Kind ∧ f.Kind ≤ 7) → f.Num = 0)
/-- a feature's tokens: one word, or a block -/
theorem feat_form {f : TSFeature} {x : FeatX} (h : FOK f x) {a : List TSToken} (ha : FeatT x.1 x.2 a) : (a = [tkW (kwX f.Kind)] ∧ f.Kind ≤ 3) ∨ ∃ mid, a = tkO 40 :: (mid ++ [tkO 41]) ∧ (∀ t, t ∈ mid → midB t) ∧ mid.length ≤ 3 ∧ Zw mid = some f := by
 obtain ⟨h1, h2, h3, h4, h5⟩ := h
 rw [h1] at ha
 obtain ⟨k, v⟩ := f
 simp only at *
 unfold FeatT at ha
 split at ha
 ·exact .inl ⟨ha, by assumption⟩
 ·right
  split at ha
  ·obtain ⟨n, rfl⟩ := ha
   refine ⟨[tkW (kwX k), tkO 58, tkN x.2 n], rfl, ?_, by simp, feature_sized (by omega) (by omega) (h4 (by omega))⟩
   intro t ht
   simp only [List.mem_cons, List.not_mem_nil, or_false] at ht
   rcases ht with rfl | rfl | rfl <;> exact ⟨by simp [tkW, tkN, tkO, oneS], by simp [tkW, tkN, tkO, oneS], by simp [tkW, tkN, tkO, oneS]⟩
  ·have hv : v = 0 := h5 (by omega)
   subst hv
   split at ha
   ·subst ha
    refine ⟨[tkW (kwX k), tkO 58, tkW (vwX k)], rfl, ?_, by simp, feature_word k (by omega) (by omega)⟩
    intro t ht
    simp only [List.mem_cons, List.not_mem_nil, or_false] at ht
    rcases ht with rfl | rfl | rfl <;> exact ⟨by simp [tkW, tkO, oneS], by simp [tkW, tkO, oneS], by simp [tkW, tkO, oneS]⟩
   ·subst ha
    obtain rfl : k = 12 := by omega
    refine ⟨[tkO 63], rfl, ?_, by simp, feature_none⟩
    intro t ht
    simp only [List.mem_cons, List.not_mem_nil, or_false] at ht
    subst ht
    exact ⟨by decide, by decide, by decide⟩
theorem block_step (mid rest : List TSToken) (g : TSFeature) (hm : ∀ t, t ∈ mid → midB t) (hl : mid.length ≤ 3) (hg : Zw mid = some g) (q0 : Bool) (K : List TSFeature → Option (TSQuery × Bool)) (N : Nat) (q1 : List TSFeature) :
  Z5 q0 K (N + 1) (tkO 40 :: (mid ++ tkO 41 :: rest)) q1 = Zx (tkO 40 :: (mid ++ tkO 41 :: rest)) q0 (Z5 q0 K N) K q1 ((mid.length + 2 : Nat) : Int) g.Kind g.Num := by
 have e0 : at? (tkO 40 :: (mid ++ tkO 41 :: rest)) 0 = some (tkO 40) := rfl
 have hw : wi (((mid.length + 2 : Nat) : Int) - 1) = ((mid.length + 1 : Nat) : Int) := by rw [wi_id (by omega) (by omega)]; omega
 have hs : sub? (tkO 40 :: (mid ++ tkO 41 :: rest)) 1 ((mid.length + 1 : Nat) : Int) = some mid := by
  have := sub_nat (l := tkO 40 :: (mid ++ tkO 41 :: rest)) (a := 1) (b := mid.length + 1) (by omega) (by simp)
  rw [show ((1 : Nat) : Int) = 1 from rfl] at this
  rw [this, List.take_succ_cons, List.take_left]
  rfl
 rw [Z5, if_pos (by simp; omega), e0, Option.bind_some, word_open, Option.bind_some, kind_nil, Option.bind_some, Option.bind_some, if_pos (by decide), end_eq mid rest hm (by omega), Option.bind_some, if_neg (by simp only [decide_eq_true_eq]; omega), hw, hs, Option.bind_some, hg, Option.bind_some]
theorem word_step (k : Int) (h1 : 1 ≤ k) (h3 : k ≤ 3) (rest : List TSToken) (q0 : Bool) (K : List TSFeature → Option (TSQuery × Bool)) (N : Nat) (q1 : List TSFeature) :
  Z5 q0 K (N + 1) (tkW (kwX k) :: rest) q1 = Zx (tkW (kwX k) :: rest) q0 (Z5 q0 K N) K q1 1 k 0 := by
 have e0 : at? (tkW (kwX k) :: rest) 0 = some (tkW (kwX k)) := rfl
 rw [Z5, if_pos (by simp), e0, Option.bind_some, word_kw, Option.bind_some, kind_kw k h1 (by omega), Option.bind_some, Option.bind_some, if_neg (by simp [tkW, kw_open k]), if_neg (by simp only [decide_eq_true_eq]; omega)]
theorem first_step {f : TSFeature} {x : FeatX} (h : FOK f x) {a : List TSToken} (ha : FeatT x.1 x.2 a) (rest : List TSToken) (q0 : Bool) (K : List TSFeature → Option (TSQuery × Bool)) (N : Nat) (q1 : List TSFeature) :
  Z5 q0 K (N + 1) (a ++ rest) q1 = Zx (a ++ rest) q0 (Z5 q0 K N) K q1 (a.length : Int) f.Kind f.Num := by
 rcases feat_form h ha with ⟨rfl, h3⟩ | ⟨mid, rfl, hm, hl, hg⟩
 ·have hn : f.Num = 0 := h.2.2.2.2 (by omega)
  rw [hn]
  exact word_step f.Kind h.2.1 h3 rest q0 K N q1
 ·have e : tkO 40 :: (mid ++ [tkO 41]) ++ rest = tkO 40 :: (mid ++ tkO 41 :: rest) := by simp
  have e2 : (tkO 40 :: (mid ++ [tkO 41])).length = mid.length + 2 := by simp
  rw [e, e2]
  exact block_step mid rest f hm hl hg q0 K N q1
theorem query_loop (fx : TSFeature → FeatX) (q0 : Bool) (K : List TSFeature → Option (TSQuery × Bool)) : ∀ (F : List TSFeature) (l : List TSToken) (q1 : List TSFeature), (∀ f, f ∈ F → FOK f (fx f)) → FeatsT (F.map fx) l → l.length ≤ 1000000 → q1.length + F.length ≤ 1000000 → ∀ N, F.length ≤ N → Z5 q0 K N l q1 = some (⟨q0, q1 ++ F⟩, true)
 | [], l, q1, _, h, _, _, N, _ => h.elim
 | [f], l, q1, hF, h, hl, hq, N, hN => by
  obtain ⟨m, rfl⟩ : ∃ m, N = m + 1 := ⟨N - 1, by simp at hN; omega⟩
  have hs := first_step (hF f (List.mem_cons_self ..)) (show FeatT (fx f).1 (fx f).2 l from h) [] q0 K m q1
  rw [List.append_nil] at hs
  rw [hs]
  unfold Zx
  have hsub : sub? l (l.length : Int) (l.length : Int) = some [] := by rw [sub_drop (Nat.le_refl _), List.drop_length]
  rw [appq (by simp at hq ⊢; omega), Option.bind_some, hsub, Option.bind_some, if_pos (by decide)]
 | f :: g :: r, l, q1, hF, h, hl, hq, N, hN => by
  obtain ⟨m, rfl⟩ : ∃ m, N = m + 1 := ⟨N - 1, by simp at hN; omega⟩
  obtain ⟨a, b, rfl, ha, hb⟩ := (show ∃ a b, l = a ++ tkW [97, 110, 100] :: b ∧ FeatT (fx f).1 (fx f).2 a ∧ FeatsT ((g :: r).map fx) b from h)
  have hs := first_step (hF f (List.mem_cons_self ..)) ha (tkW [97, 110, 100] :: b) q0 K m q1
  simp only [List.length_append, List.length_cons] at hl hq hN
  have ih := query_loop fx q0 K (g :: r) b (q1 ++ [f]) (fun x hx => hF x (List.mem_cons_of_mem _ hx)) hb (by omega) (by simp; omega) m (by simp; omega)
  have hsub : sub? (a ++ tkW [97, 110, 100] :: b) (a.length : Int) ((a ++ tkW [97, 110, 100] :: b).length : Int) = some (tkW [97, 110, 100] :: b) := by rw [sub_drop (by simp), List.drop_left]
  have hsub2 : sub? (tkW [97, 110, 100] :: b) 1 ((tkW [97, 110, 100] :: b).length : Int) = some b := sub_drop (l := tkW [97, 110, 100] :: b) (a := 1) (by simp)
  have e0 : at? (tkW [97, 110, 100] :: b) 0 = some (tkW [97, 110, 100]) := rfl
  rw [hs]
  unfold Zx
  rw [appq (by simp; omega), Option.bind_some, hsub, Option.bind_some, if_neg (by simp; omega), e0, Option.bind_some, word_and, Option.bind_some, if_neg (by decide), hsub2, Option.bind_some]
  show Z5 q0 K m b (q1 ++ [f]) = _
  rw [ih]
  simp
structure QX (fx : TSFeature → FeatX) (q : TSQuery) (x : QryX) : Prop where
 nt : x.nt = q.Not
 fs : x.fs = q.Features.map fx
 ok : ∀ f, f ∈ q.Features → FOK f (fx f)
theorem feats_head {fx : TSFeature → FeatX} : ∀ {F : List TSFeature} {l : List TSToken}, (∀ f, f ∈ F → FOK f (fx f)) → FeatsT (F.map fx) l → ∃ t r w, l = t :: r ∧ Zc t = some w ∧ w ≠ [110, 111, 116]
 | [], l, _, h => h.elim
 | f :: F, l, hF, h => by
  have main : ∀ a rest, FeatT (fx f).1 (fx f).2 a → ∃ t r w, a ++ rest = t :: r ∧ Zc t = some w ∧ w ≠ [110, 111, 116] := by
   intro a rest ha
   rcases feat_form (hF f (List.mem_cons_self ..)) ha with ⟨rfl, _⟩ | ⟨mid, rfl, _⟩
   ·exact ⟨_, _, _, rfl, word_kw _, kw_not _⟩
   ·exact ⟨_, _, _, rfl, word_open, by simp⟩
  cases F with
  | nil =>
   have := main l [] h
   rwa [List.append_nil] at this
  | cons g r =>
   obtain ⟨a, b, rfl, ha, hb⟩ := (show ∃ a b, l = a ++ tkW [97, 110, 100] :: b ∧ FeatT (fx f).1 (fx f).2 a ∧ FeatsT ((g :: r).map fx) b from h)
   exact main a _ ha
theorem query_eq {fx : TSFeature → FeatX} {q : TSQuery} {x : QryX} (h : QX fx q x) {l : List TSToken} (hl : QryT x l) (hlen : l.length ≤ 1000000) (hq : q.Features.length ≤ 1000000) : Z2s l = some (q, true) := by
 obtain ⟨h1, h2, h3⟩ := h
 obtain ⟨nt, F⟩ := q
 simp only at *
 unfold QryT at hl
 rw [h1, h2] at hl
 have fin : ∀ l, l.length ≤ 1000000 → FeatsT (F.map fx) l → Z20 l nt = some (⟨nt, F⟩, true) := by
  intro l hlen hl
  unfold Z20
  exact limF_of F.length fun k hk => query_loop fx nt _ F l [] h3 hl hlen (by simpa using hq) k hk
 unfold Z2s
 cases nt with
 | true =>
  obtain ⟨b, rfl, hb⟩ := (show ∃ b, l = tkW [110, 111, 116] :: b ∧ FeatsT (F.map fx) b from hl)
  have e0 : at? (tkW [110, 111, 116] :: b) 0 = some (tkW [110, 111, 116]) := rfl
  have hsub2 : sub? (tkW [110, 111, 116] :: b) 1 ((tkW [110, 111, 116] :: b).length : Int) = some b := sub_drop (l := tkW [110, 111, 116] :: b) (a := 1) (by simp)
  rw [if_pos (by simp), e0, Option.bind_some, word_no, Option.bind_some]
  unfold Z21
  rw [if_pos (by decide), hsub2, Option.bind_some]
  exact fin b (by simp at hlen; omega) hb
 | false =>
  have hl : FeatsT (F.map fx) l := hl
  obtain ⟨t, r, w, rfl, hw, hne⟩ := feats_head h3 hl
  have e0 : at? (t :: r) 0 = some t := rfl
  rw [if_pos (by simp), e0, Option.bind_some, hw, Option.bind_some]
  unfold Z21
  rw [if_neg (by simpa using hne)]
  exact fin _ hlen hl
/-! ### pieces -/
def Pass (a : List TSToken) : Prop := ∀ (p rest : List TSToken) (K : List (List TSToken) → Int → Option (List (List TSToken))) (out : List (List TSToken)) (fr : Int), (p ++ (a ++ rest)).length ≤ 1000000 →
 ∃ c, c ≤ a.length ∧ ∀ N, Z4 (p ++ (a ++ rest)) K (N + c) out fr (p.length : Int) = Z4 (p ++ (a ++ rest)) K N out fr ((p.length + a.length : Nat) : Int)
theorem at_mid (p : List TSToken) (t : TSToken) (r : List TSToken) : at? (p ++ t :: r) (p.length : Int) = some t := by
 rw [at_nat, List.getElem?_append_right (Nat.le_refl _), Nat.sub_self]
 rfl
theorem pass_one (t : TSToken) (h10 : t.Kind ≠ 10) (h2 : t.Kind ≠ 2) (h12 : ¬ (t.Kind = 12 ∧ t.Raw = [44])) : Pass [t] := by
 intro p rest K out fr hl
 refine ⟨1, by simp, fun N => ?_⟩
 simp only [List.length_append, List.length_cons, List.length_nil] at hl
 show Z4 (p ++ t :: rest) K (N + 1) out fr (p.length : Int) = Z4 (p ++ t :: rest) K N out fr ((p.length + 1 : Nat) : Int)
 have hw : wi ((p.length : Int) + 1) = ((p.length + 1 : Nat) : Int) := by rw [wi_id (by omega) (by omega)]; omega
 rw [Z4, if_pos (by simp; omega), at_mid, Option.bind_some, if_neg (by simp [h10, h2]), if_neg (by simpa using h12)]
 unfold Z13
 rw [hw]
theorem pass_block (mid : List TSToken) (hm : ∀ t, t ∈ mid → midB t) : Pass (tkO 40 :: (mid ++ [tkO 41])) := by
 intro p rest K out fr hl
 refine ⟨1, by simp, fun N => ?_⟩
 have e : tkO 40 :: (mid ++ [tkO 41]) ++ rest = tkO 40 :: (mid ++ tkO 41 :: rest) := by simp
 rw [e] at hl ⊢
 have hl2 : p.length + mid.length + rest.length + 2 ≤ 1000000 := by simp at hl; omega
 have e2 : (tkO 40 :: (mid ++ [tkO 41])).length = mid.length + 2 := by simp
 rw [e2]
 have hsub : sub? (p ++ tkO 40 :: (mid ++ tkO 41 :: rest)) (p.length : Int) ((p ++ tkO 40 :: (mid ++ tkO 41 :: rest)).length : Int) = some (tkO 40 :: (mid ++ tkO 41 :: rest)) := by rw [sub_drop (by simp), List.drop_left]
 have hw : wi (wi ((p.length : Int) + wi (((mid.length + 2 : Nat) : Int) - 1)) + 1) = ((p.length + (mid.length + 2) : Nat) : Int) := by
  rw [wi_id (n := ((mid.length + 2 : Nat) : Int) - 1) (by omega) (by omega), wi_id (n := (p.length : Int) + _) (by omega) (by omega), wi_id (by omega) (by omega)]; omega
 rw [Z4, if_pos (by simp; omega), at_mid, Option.bind_some, if_pos (by decide), hsub, Option.bind_some, end_eq mid rest hm (by omega), Option.bind_some, if_neg (by simp only [decide_eq_true_eq]; omega)]
 unfold Z2o Z13
 rw [hw]
theorem pass_append {a b : List TSToken} (ha : Pass a) (hb : Pass b) : Pass (a ++ b) := by
 intro p rest K out fr hl
 have e1 : p ++ (a ++ b ++ rest) = p ++ (a ++ (b ++ rest)) := by simp
 have e2 : p ++ (a ++ b ++ rest) = (p ++ a) ++ (b ++ rest) := by simp
 obtain ⟨c1, h1, g1⟩ := ha p (b ++ rest) K out fr (by rw [← e1]; exact hl)
 obtain ⟨c2, h2, g2⟩ := hb (p ++ a) rest K out fr (by rw [← e2]; exact hl)
 rw [← e1] at g1
 rw [← e2, List.length_append] at g2
 refine ⟨c1 + c2, by rw [List.length_append]; omega, fun N => ?_⟩
 rw [show N + (c1 + c2) = (N + c2) + c1 by omega, g1, g2, List.length_append, Nat.add_assoc]
theorem feat_pass {f : TSFeature} {x : FeatX} (h : FOK f x) {a : List TSToken} (ha : FeatT x.1 x.2 a) : Pass a := by
 rcases feat_form h ha with ⟨rfl, _⟩ | ⟨mid, rfl, hm, _⟩
 ·exact pass_one _ (by simp [tkW]) (by simp [tkW]) (by simp [tkW])
 ·exact pass_block mid hm
theorem word_pass (w : List UInt8) : Pass [tkW w] := pass_one _ (by simp [tkW]) (by simp [tkW]) (by simp [tkW])
theorem feats_pass {fx : TSFeature → FeatX} : ∀ {F : List TSFeature} {l : List TSToken}, (∀ f, f ∈ F → FOK f (fx f)) → FeatsT (F.map fx) l → Pass l
 | [], l, _, h => h.elim
 | [f], l, hF, h => feat_pass (hF f (List.mem_cons_self ..)) h
 | f :: g :: r, l, hF, h => by
  obtain ⟨a, b, rfl, ha, hb⟩ := (show ∃ a b, l = a ++ tkW [97, 110, 100] :: b ∧ FeatT (fx f).1 (fx f).2 a ∧ FeatsT ((g :: r).map fx) b from h)
  exact pass_append (feat_pass (hF f (List.mem_cons_self ..)) ha) (pass_append (word_pass _) (feats_pass (fun x hx => hF x (List.mem_cons_of_mem _ hx)) hb))
theorem qry_pass {fx : TSFeature → FeatX} {q : TSQuery} {x : QryX} (h : QX fx q x) {l : List TSToken} (hl : QryT x l) : Pass l := by
 unfold QryT at hl
 rw [h.fs] at hl
 cases hn : x.nt with
 | true =>
  rw [hn] at hl
  obtain ⟨b, rfl, hb⟩ := (show ∃ b, l = tkW [110, 111, 116] :: b ∧ FeatsT (q.Features.map fx) b from hl)
  exact pass_append (word_pass _) (feats_pass h.ok hb)
 | false =>
  rw [hn] at hl
  exact feats_pass h.ok hl
def PK (L : List TSToken) (out1 : List (List TSToken)) (from_1 : Int) : Option (List (List TSToken)) :=
 (sub? L from_1 (L.length : Int)).bind fun r_4 => (app? 24 out1 [r_4]).bind fun r_5 => some r_5
theorem pieces_main (fx : TSFeature → FeatX) (qx : TSQuery → QryX) (L : List TSToken) (hL : L.length ≤ 1000000) : ∀ (Q : List TSQuery), (∀ q, q ∈ Q → QX fx q (qx q)) → ∀ (p l : List TSToken) (out : List (List TSToken)), L = p ++ l → QrysT (Q.map qx) l → out.length + Q.length ≤ 1000000 →
  ∃ ls : List (List TSToken), ls.length = Q.length ∧ (∀ i (h1 : i < ls.length) (h2 : i < Q.length), QryT (qx Q[i]) ls[i] ∧ ls[i].length ≤ L.length) ∧ ∃ c, c ≤ l.length + 1 ∧ ∀ N, Z4 L (PK L) (N + c) out (p.length : Int) (p.length : Int) = some (out ++ ls)
 | [], _, p, l, out, _, h, _ => h.elim
 | [q], hQ, p, l, out, e, h, ho => by
  have hx := hQ q (List.mem_cons_self ..)
  have hq : QryT (qx q) l := h
  obtain ⟨c, hc, g⟩ := qry_pass hx hq p [] (PK L) out (p.length : Int) (by rw [List.append_nil, ← e]; exact hL)
  rw [List.append_nil, ← e] at g
  have hlen : p.length + l.length = L.length := by rw [e, List.length_append]
  refine ⟨[l], rfl, fun i h1 h2 => ?_, c + 1, by omega, fun N => ?_⟩
  ·obtain rfl : i = 0 := by simp at h1; omega
   exact ⟨hq, by show l.length ≤ _; omega⟩
  ·rw [show N + (c + 1) = (N + 1) + c by omega, g, hlen, Z4, if_neg (by simp)]
   unfold PK
   have hsub : sub? L (p.length : Int) (L.length : Int) = some l := by rw [sub_drop (by omega)]; subst e; rw [List.drop_left]
   rw [hsub, Option.bind_some, appq (by simp at ho ⊢; omega), Option.bind_some]
 | q :: q2 :: r, hQ, p, l, out, e, h, ho => by
  have hx := hQ q (List.mem_cons_self ..)
  obtain ⟨a, b, rfl, ha, hb⟩ := (show ∃ a b, l = a ++ tkO 44 :: b ∧ QryT (qx q) a ∧ QrysT ((q2 :: r).map qx) b from h)
  obtain ⟨c, hc, g⟩ := qry_pass hx ha p (tkO 44 :: b) (PK L) out (p.length : Int) (by rw [← e]; exact hL)
  rw [← e] at g
  have hlen : p.length + (a.length + (b.length + 1)) = L.length := by rw [e]; simp
  simp only [List.length_cons] at ho
  have e2 : L = (p ++ a ++ [tkO 44]) ++ b := by rw [e]; simp
  have hp2 : (p ++ a ++ [tkO 44]).length = p.length + a.length + 1 := by simp; omega
  obtain ⟨ls, k1, k2, c2, k3, k4⟩ := pieces_main fx qx L hL (q2 :: r) (fun x hx => hQ x (List.mem_cons_of_mem _ hx)) (p ++ a ++ [tkO 44]) b (out ++ [a]) e2 hb (by simp; omega)
  refine ⟨a :: ls, by simp [k1], fun i h1 h2 => ?_, c + 1 + c2, by simp; omega, fun N => ?_⟩
  ·cases i with
   | zero => exact ⟨ha, by show a.length ≤ _; omega⟩
   | succ j => exact k2 j (by simpa using h1) (by simpa using h2)
  ·have hat : at? L ((p.length + a.length : Nat) : Int) = some (tkO 44) := by
    have := at_mid (p ++ a) (tkO 44) b
    rw [List.length_append] at this
    rw [e, ← List.append_assoc]
    exact this
   have hsub : sub? L (p.length : Int) ((p.length + a.length : Nat) : Int) = some a := by
    rw [sub_nat (by omega) (by omega)]
    have : L.take (p.length + a.length) = p ++ a := by
     rw [e, ← List.append_assoc, ← List.length_append, List.take_left]
    rw [this, List.drop_left]
   have hw : wi (((p.length + a.length : Nat) : Int) + 1) = ((p.length + a.length + 1 : Nat) : Int) := by rw [wi_id (by omega) (by omega)]; omega
   rw [show N + (c + 1 + c2) = ((N + c2) + 1) + c by omega, g, Z4, if_pos (by simp only [decide_eq_true_eq]; omega), hat, Option.bind_some, if_neg (by decide), if_pos (by decide), hsub, Option.bind_some, appq (by simp; omega), Option.bind_some]
   unfold Z13
   rw [hw]
   rw [hp2] at k4
   rw [k4]
   simp
theorem cutF_len : ∀ (N : Nat) (s : List UInt8), (cutF N s).length ≤ N
 | 0, s => Nat.le_refl _
 | N + 1, s => by
  rw [cutF]
  split
  ·simp
  ·have := cutF_len N (s.drop (firstS s).Raw.length)
   simp; omega
theorem solid_l0 (l : List TSToken) (hl : l.length ≤ 1000000) (K : List TSToken → Option (List TSToken)) : ∀ (N i : Nat), l.length - i < N → i ≤ l.length → Zq l K N ((l.take i).filter solidB) (i : Int) = K (l.filter solidB)
 | 0, i, h, _ => by omega
 | N + 1, i, h, hi => by
  rw [Zq]
  by_cases hlt : i < l.length
  ·have hlen : ((l.take i).filter solidB).length ≤ 1000000 := by
    have h1 := List.length_filter_le solidB (l.take i)
    rw [List.length_take] at h1
    omega
   have ht : (l.take (i + 1)).filter solidB = (l.take i).filter solidB ++ (if solidB l[i] then [l[i]] else []) := by
    rw [take_succ_get hlt, List.filter_append]
    congr 1
    cases hb : solidB l[i] <;> simp [hb]
   have ih := solid_l0 l hl K N (i + 1) (by omega) (by omega)
   rw [ht] at ih
   have hc : ((!decide (l[i].Kind = 8)) && (!decide (l[i].Kind = 9))) = solidB l[i] := by
    unfold solidB
    rw [Bool.not_or]
   rw [if_pos (lt_pos hlt), at_some hlt, Option.bind_some, hc]
   unfold Z2l
   rw [wi_next hlt (by omega)]
   cases hb : solidB l[i] with
   | true =>
    rw [hb, if_pos rfl] at ih
    rw [if_pos rfl, appq (by simp; omega), Option.bind_some]
    exact ih
   | false =>
    rw [hb, if_neg (by simp), List.append_nil] at ih
    rw [if_neg (by simp)]
    exact ih
  ·rw [if_neg (by simp only [decide_eq_true_eq]; omega), List.take_of_length_le (by omega)]
theorem solid_eq (l : List TSToken) (hl : l.length ≤ 1000000) : Z2m l = some (l.filter solidB) := by
 unfold Z2m
 exact limF_of (l.length + 1) fun k hk => solid_l0 l hl _ k 0 (by omega) (by omega)
theorem qrys_ne {qx : TSQuery → QryX} {fx : TSFeature → FeatX} {Q : List TSQuery} (hQ : ∀ q, q ∈ Q → QX fx q (qx q)) {l : List TSToken} (h : QrysT (Q.map qx) l) : l ≠ [] := by
 match Q, h with
 | [q], h =>
  have hq : QryT (qx q) l := h
  have hx := hQ q (List.mem_cons_self ..)
  unfold QryT at hq
  rw [hx.fs] at hq
  split at hq
  ·obtain ⟨b, rfl, _⟩ := hq; simp
  ·obtain ⟨t, r, w, rfl, _⟩ := feats_head hx.ok hq; simp
 | q :: q2 :: r, h =>
  obtain ⟨a, b, rfl, _⟩ := h
  simp
theorem read_eq {fx : TSFeature → FeatX} {qx : TSQuery → QryX} (Q : List TSQuery) (hne : Q ≠ []) (hQ : ∀ q, q ∈ Q → QX fx q (qx q)) (hD : ∀ q, q ∈ Q → QryOK (qx q)) (h1 : Q.length ≤ 900000) (h2 : ∀ q, q ∈ Q → q.Features.length ≤ 1000000) (s : List UInt8) (hs : s = joinL COM ((Q.map qx).map qryX)) (hl : s.length ≤ 400) : Zr s = some (Q, 0) := by
 have hc := qrys_cut (Q.map qx) (by simpa using hne) (by intro x hx; obtain ⟨q, hq, rfl⟩ := List.mem_map.1 hx; exact hD q hq)
 rw [← hs] at hc
 have hcl : (cutS s).length ≤ 400 := Nat.le_trans (cutF_len _ _) hl
 have hfl : ((cutS s).filter solidB).length ≤ 400 := Nat.le_trans (List.length_filter_le _ _) hcl
 obtain ⟨ls, k1, k2, c, k3, k4⟩ := pieces_main fx qx ((cutS s).filter solidB) (by omega) Q hQ [] ((cutS s).filter solidB) [] rfl hc (by simp; omega)
 have hp : Z2p ((cutS s).filter solidB) = some ls := by
  unfold Z2p
  refine limF_of c (fun k hk => ?_) (by omega)
  obtain ⟨N, rfl⟩ : ∃ N, k = N + c := ⟨k - c, by omega⟩
  exact k4 N
 have hnn := qrys_ne hQ hc
 unfold Zr
 rw [if_neg (by simp only [decide_eq_true_eq]; omega), cut_eq (by omega), Option.bind_some, solid_eq _ (by omega), Option.bind_some, if_neg (by simpa using hnn), hp, Option.bind_some]
 obtain ⟨o, ho, e⟩ := rounds_all (σ := List TSQuery) (fun m out i => Z9 ls (fun (out1 : (List TSQuery)) => some (out1, 0)) m out ls i) (fun out => some (out, 0)) ls.length (fun i out => out = Q.take i) [] rfl
  (fun m out _ => by
   show Z9 ls _ (m + 1) out ls (ls.length : Int) = _
   rw [Z9, if_neg (lt_neg _)])
  (fun out i hi ho => by
   subst ho
   have hi2 : i < Q.length := by omega
   have hm := List.getElem_mem hi2
   obtain ⟨g1, g2⟩ := k2 i hi hi2
   refine ⟨Q.take (i + 1), rfl, fun m => ?_⟩
   show Z9 ls _ (m + 1) (Q.take i) ls (i : Int) = Z9 ls _ m (Q.take (i + 1)) ls _
   rw [Z9, if_pos (lt_pos hi), at_some hi, Option.bind_some, query_eq (hQ _ hm) g1 (by omega) (h2 _ hm), Option.bind_some, if_neg (by simp)]
   unfold Z2t
   rw [appq (by simp; omega), Option.bind_some, wi_next hi (by omega), take_succ_get hi2])
 rw [k1, List.take_length] at ho
 subst ho
 exact e
/-! ### holds -/
def OneV (x : Int) : Prop := x = 1 ∨ x = 0 ∨ x = -1
theorem so_j (b : Bool) : OneV (Z6 b) := by cases b <;> simp [Z6, OneV]
theorem so_ite {c : Prop} [Decidable c] {x y : Int} (h1 : OneV x) (h2 : OneV y) : OneV (if c then x else y) := by split <;> assumption
theorem so_vals (f : TSFeature) (env : TEnv) : Z1 f env = 1 ∨ Z1 f env = 0 ∨ Z1 f env = -1 := by
 show OneV _
 unfold Z1
 iterate 11 refine so_ite (so_j _) ?_
 exact .inr (.inl rfl)
def HoldsQ (env : TEnv) (q : TSQuery) : Prop := if q.Not then ∃ f, f ∈ q.Features ∧ Z1 f env = -1 else ∀ f, f ∈ q.Features → Z1 f env = 1
theorem all_eq (q : TSQuery) (env : TEnv) (hq : q.Features.length ≤ 1000000) : ∃ r : Int, Z2u q env = some r ∧ (r = 1 ↔ HoldsQ env q) := by
 unfold Z2u
 obtain ⟨n, ⟨hn, ha, hb⟩, e⟩ := rounds_all (σ := Int) (fun m n i => Zd q env (fun (n_1 : Int) => if q.Not then Zy (wi (0 - n_1)) else Zy n_1) m n i) (fun n_1 => if q.Not then Zy (wi (0 - n_1)) else Zy n_1) q.Features.length
  (fun i n => (n = 1 ∨ n = 0 ∨ n = -1) ∧ (n = 1 ↔ ∀ f, f ∈ q.Features.take i → Z1 f env = 1) ∧ (n = -1 ↔ ∃ f, f ∈ q.Features.take i ∧ Z1 f env = -1)) 1 ⟨.inl rfl, by simp, by simp⟩
  (fun m n _ => by
   show Zd q env _ (m + 1) n (q.Features.length : Int) = _
   rw [Zd, if_neg (lt_neg _)])
  (fun n i hi hI => by
   obtain ⟨hn, ha, hb⟩ := hI
   refine ⟨mn n (Z1 q.Features[i] env), ?_, fun m => ?_⟩
   ·have hv := so_vals q.Features[i] env
    rw [take_succ_get hi]
    simp only [List.mem_append, List.mem_singleton]
    have e1 : (∀ f, f ∈ q.Features.take i ∨ f = q.Features[i] → Z1 f env = 1) ↔ (n = 1 ∧ Z1 q.Features[i] env = 1) := by
     rw [ha]
     constructor
     ·intro h; exact ⟨fun f hf => h f (.inl hf), h _ (.inr rfl)⟩
     ·rintro ⟨h1, h2⟩ f (hf | rfl)
      ·exact h1 f hf
      ·exact h2
    have e2 : (∃ f, (f ∈ q.Features.take i ∨ f = q.Features[i]) ∧ Z1 f env = -1) ↔ (n = -1 ∨ Z1 q.Features[i] env = -1) := by
     rw [hb]
     constructor
     ·rintro ⟨f, hf | rfl, h⟩
      ·exact .inl ⟨f, hf, h⟩
      ·exact .inr h
     ·rintro (⟨f, hf, h⟩ | h)
      ·exact ⟨f, .inl hf, h⟩
      ·exact ⟨_, .inr rfl, h⟩
    rw [e1, e2]
    generalize Z1 q.Features[i] env = v at hv ⊢
    unfold mn
    refine ⟨?_, ?_, ?_⟩ <;> split <;> omega
   ·show Zd q env _ (m + 1) n (i : Int) = Zd q env _ m _ _
    rw [Zd, if_pos (lt_pos hi), at_some hi, Option.bind_some, wi_next hi (by omega)])
 rw [List.take_length] at ha hb
 unfold HoldsQ
 refine Exists.intro (if q.Not then 0 - n else n) ⟨?_, ?_⟩
 ·refine e.trans ?_
  unfold Zy
  split
  ·rw [wi_id (by omega) (by omega)]
  ·rfl
 ·split
  ·rw [← hb]; omega
  ·rw [← ha]
theorem holds_eq (Q : List TSQuery) (env : TEnv) (h1 : Q.length ≤ 1000000) (h2 : ∀ q, q ∈ Q → q.Features.length ≤ 1000000) (s : List UInt8) (hr : Zr s = some (Q, 0)) : Z15 s env = some (if ((((decide (env.Width < 1)) || (decide (4000 < env.Width))) || (decide (env.Height < 1))) || (decide (4000 < env.Height))) then (false, 1) else (@decide (∃ q, q ∈ Q ∧ HoldsQ env q) (Classical.propDecidable _), 0)) := by
 unfold Z15
 rw [hr, Option.bind_some, if_neg (by simp)]
 split
 ·rfl
 ·rcases rounds_lim (σ := Unit) (fun m _ i => Z8 (Q, 0) env (fun (_ : Unit) => some (false, 0)) m Q i) (fun _ => some (false, 0)) Q.length (fun i _ => ∀ q, q ∈ Q.take i → ¬ HoldsQ env q) (fun v => v = some (true, 0) ∧ ∃ q, q ∈ Q ∧ HoldsQ env q) () (by simp)
   (fun m _ _ => by
    show Z8 (Q, 0) env _ (m + 1) Q (Q.length : Int) = _
    rw [Z8, if_neg (lt_neg _)])
   (fun _ i hi hI => by
    have hm := List.getElem_mem hi
    obtain ⟨r, g1, g2⟩ := all_eq Q[i] env (h2 _ hm)
    have head : ∀ m, Z8 (Q, 0) env (fun (_ : Unit) => some (false, 0)) (m + 1) Q (i : Int) = if decide (r = 1) then some (true, 0) else Z8 (Q, 0) env (fun (_ : Unit) => some (false, 0)) m Q ((i + 1 : Nat) : Int) := by
     intro m
     rw [Z8, if_pos (lt_pos hi), at_some hi, Option.bind_some, g1, Option.bind_some, wi_next hi (by omega)]
    by_cases hr1 : r = 1
    ·right
     exact ⟨some (true, 0), ⟨rfl, Q[i], hm, g2.1 hr1⟩, fun m => by show Z8 (Q, 0) env _ (m + 1) Q (i : Int) = _; rw [head, if_pos (by simpa using hr1)]⟩
    ·left
     refine ⟨(), fun q hq => ?_, fun m => by show Z8 (Q, 0) env _ (m + 1) Q (i : Int) = _; rw [head, if_neg (by simpa using hr1)]⟩
     rw [take_succ_get hi, List.mem_append, List.mem_singleton] at hq
     rcases hq with hq | rfl
     ·exact hI q hq
     ·exact fun h => hr1 (g2.2 h)) with ⟨_, hI, e⟩ | ⟨v, ⟨rfl, hex⟩, e⟩
  ·rw [List.take_length] at hI
   refine e.trans ?_
   rw [@decide_eq_false _ (Classical.propDecidable _) (by rintro ⟨q, hq, h⟩; exact hI q hq h)]
  ·refine e.trans ?_
   rw [@decide_eq_true _ (Classical.propDecidable _) hex]
end Go.Proofs.YtkimpaokepfonaaGreatDoorBv
/- The law of queries that are told and held, over plain values of bounded bulk. No program is in sight. -/
namespace Go.Proofs.YtkimpaokepfonaaGreatDoorBv
open Go
set_option linter.unusedSimpArgs false
set_option linter.unusedVariables false
set_option maxRecDepth 100000 in
theorem wide_eq : Z38 = some true := by kernel_rfl
theorem dig_byte (n : Nat) : byts [wr .u8 (wi (48 + ((n : Int).tmod 10)))] = [UInt8.ofNat (48 + n % 10)] := by
 have h2 : ((n : Int)).tmod 10 = ((n % 10 : Nat) : Int) := by rw [Int.tmod_eq_emod_of_nonneg (by omega)]; omega
 rw [h2, wi_id (by omega) (by omega), wr_u8]
 unfold byts
 simp only [List.map_cons, List.map_nil]
 congr 2
 omega
theorem digits2_loop : ∀ (d n : Nat), n ≤ d → n ≤ 1000000 → ∀ k, Z23 (k + d + 1) (n : Int) = some (Lib.decDigits n)
 | d, n, hd, hi, k => by
  unfold Z23
  by_cases h : n < 10
  ·rw [if_neg (by simp only [decide_eq_true_eq]; omega), dig_byte, Nat.mod_eq_of_lt h, Lib.decDigits_one h]
   rfl
  ·obtain ⟨e, rfl⟩ : ∃ e, d = e + 1 := ⟨d - 1, by omega⟩
   have h1 : ((n : Int)).tdiv 10 = ((n / 10 : Nat) : Int) := by rw [Int.tdiv_eq_ediv_of_nonneg (by omega)]; omega
   have r1 := digits2_loop e (n / 10) (by omega) (by omega) k
   have l1 := dec_len 6 (n / 10) (by omega)
   rw [if_pos (by simp only [decide_eq_true_eq]; omega), dig_byte, h1, wi_id (by omega) (by omega), show k + (e + 1) = k + e + 1 by omega, r1, Option.bind_some,
    catq (by simp; omega), Option.bind_some]
   conv => rhs; rw [Lib.decDigits, dif_neg h]
   rfl
theorem signed_nat (n : Nat) (h : n ≤ 1000000) : Zz (n : Int) = some (Lib.decDigits n) := by
 have hd : Z1h (n : Int) = some (Lib.decDigits n) := by
  unfold Z1h
  exact limF_add (n + 1) fun k => digits2_loop n n (Nat.le_refl _) h k
 unfold Zz
 refine limF_add 1 fun k => ?_
 unfold Z2v
 rw [if_neg (by simp only [decide_eq_true_eq]; omega), if_neg (by simp only [decide_eq_true_eq]; omega), hd]
 rfl
def RF (f : TSFeature) : Prop := 1 ≤ f.Kind ∧ f.Kind ≤ 12 ∧ (4 ≤ f.Kind ∧ f.Kind ≤ 7 → 0 ≤ f.Num ∧ f.Num ≤ 1000000) ∧ (¬ (4 ≤ f.Kind ∧ f.Kind ≤ 7) → f.Num = 0)
noncomputable def ftS (f : TSFeature) : List UInt8 := ftX f.Kind (Lib.decDigits f.Num.toNat)
theorem ft_eq (f : TSFeature) (h : RF f) : True ∧ Z2w f = some (ftS f) ∧ (ftS f).length ≤ 100 := by
 obtain ⟨k, n⟩ := f
 obtain ⟨h1, h2, h3, h4⟩ := h
 simp only at h1 h2 h3 h4
 refine ⟨trivial, ?_⟩
 rcases (show k = 1 ∨ k = 2 ∨ k = 3 ∨ (4 ≤ k ∧ k ≤ 7) ∨ k = 8 ∨ k = 9 ∨ k = 10 ∨ k = 11 ∨ k = 12 by omega) with e | e | e | e | e | e | e | e | e
 case inr.inr.inr.inl =>
  obtain ⟨g1, g2⟩ := h3 e
  have hl := dec_len 6 n.toNat (by omega)
  have hsg : Zz n = some (Lib.decDigits n.toNat) := by
   have := signed_nat n.toNat (by omega)
   rwa [show ((n.toNat : Nat) : Int) = n by omega] at this
  unfold ftS Z2w
  simp only [hsg, Option.bind_some]
  rcases (show k = 4 ∨ k = 5 ∨ k = 6 ∨ k = 7 by omega) with e | e | e | e <;> subst e
  ·rw [if_neg (by simp), if_neg (by simp), if_neg (by simp), if_pos (by simp), catq (by simp; omega), Option.bind_some, catq (by simp; omega), Option.bind_some]
   exact ⟨by simp [ftX, kwX], by simp [ftX, kwX]; omega⟩
  ·rw [if_neg (by simp), if_neg (by simp), if_neg (by simp), if_neg (by simp), if_pos (by simp), catq (by simp; omega), Option.bind_some, catq (by simp; omega), Option.bind_some]
   exact ⟨by simp [ftX, kwX], by simp [ftX, kwX]; omega⟩
  ·rw [if_neg (by simp), if_neg (by simp), if_neg (by simp), if_neg (by simp), if_neg (by simp), if_pos (by simp), catq (by simp; omega), Option.bind_some, catq (by simp; omega), Option.bind_some]
   exact ⟨by simp [ftX, kwX], by simp [ftX, kwX]; omega⟩
  ·rw [if_neg (by simp), if_neg (by simp), if_neg (by simp), if_neg (by simp), if_neg (by simp), if_neg (by simp), if_pos (by simp), catq (by simp; omega), Option.bind_some, catq (by simp; omega), Option.bind_some]
   exact ⟨by simp [ftX, kwX], by simp [ftX, kwX]; omega⟩
 all_goals
  subst e
  have hn : n = 0 := h4 (by omega)
  subst hn
  unfold ftS
  exact ⟨rfl, by simp [ftX, kwX, vwX]⟩
noncomputable def qT (q : TSQuery) : List UInt8 := (if q.Not then NOT else []) ++ joinL AND (q.Features.map ftS)
def QOK (q : TSQuery) : Prop := (∀ f, f ∈ q.Features → RF f) ∧ q.Features.length ≤ 1000000
theorem feats_w {F : List TSFeature} (h : ∀ f, f ∈ F → RF f) : wL AND.length (F.map ftS) ≤ 105 * F.length := by
 induction F with
 | nil => simp [wL]
 | cons f r ih =>
  have h1 := (ft_eq f (h f (List.mem_cons_self ..))).2.2
  have h2 := ih fun x hx => h x (List.mem_cons_of_mem _ hx)
  have h5 : AND.length = 5 := rfl
  simp only [wL, List.map_cons, List.sum_cons, List.length_cons, h5] at h2 ⊢
  omega
theorem qT_len {q : TSQuery} (hq : QOK q) : (qT q).length ≤ 4 + 105 * q.Features.length := by
 have h1 := joinL_len AND (q.Features.map ftS)
 have h2 := feats_w hq.1
 unfold qT
 rw [List.length_append]
 split
 ·have : NOT.length = 4 := rfl
  omega
 ·simp; omega
theorem ref_l3 (l : List TSQuery) (i : Nat) (hi : i < l.length) (hq : QOK l[i]) (s : List UInt8) (hs : s.length ≤ 1000000000) (K : List UInt8 → Option (List UInt8)) : ∀ (N k : Nat), l[i].Features.length - k < N → k ≤ l[i].Features.length →
  Zj l (i : Int) K N (s ++ joinL AND ((l[i].Features.take k).map ftS)) (k : Int) = K (s ++ joinL AND (l[i].Features.map ftS))
 | 0, k, hN, hk => by omega
 | N + 1, k, hN, hk => by
  have hl := hq.2
  rw [Zj, at_some hi, Option.bind_some]
  by_cases h : k < l[i].Features.length
  ·have hf := (ft_eq l[i].Features[k] (hq.1 _ (List.getElem_mem h))).2
   have hw : wi ((k : Int) + 1) = ((k + 1 : Nat) : Int) := by rw [wi_id (by omega) (by omega)]; omega
   have e : (l[i].Features.take (k + 1)).map ftS = (l[i].Features.take k).map ftS ++ [ftS l[i].Features[k]] := by
    rw [List.take_add_one, List.getElem?_eq_getElem h, List.map_append]
    rfl
   have hsn := joinL_snoc AND ((l[i].Features.take k).map ftS) (ftS l[i].Features[k])
   rw [← e] at hsn
   have hlen := joinL_len AND ((l[i].Features.take k).map ftS)
   have hw2 := feats_w (F := l[i].Features.take k) fun f hm => hq.1 f (List.mem_of_mem_take hm)
   have hmin : (l[i].Features.take k).length ≤ 1000000 := by rw [List.length_take]; omega
   have ih := ref_l3 l i hi hq s hs K N (k + 1) (by omega) (by omega)
   have j15 : ∀ T, T ++ ftS l[i].Features[k] = s ++ joinL AND ((l[i].Features.take (k + 1)).map ftS) → T.length ≤ 3000000000 → Z25 l (i : Int) (k : Int) (Zj l (i : Int) K N) K T = K (s ++ joinL AND (l[i].Features.map ftS)) := by
    intro T hT hTl
    unfold Z25
    rw [at_some hi, Option.bind_some, at_some h, Option.bind_some, hf.1, Option.bind_some, catq (by have := hf.2; omega), Option.bind_some, hw, hT]
    exact ih
   have h5 : AND.length = 5 := rfl
   rw [if_pos (by simp only [decide_eq_true_eq]; omega)]
   by_cases h0 : k = 0
   ·subst h0
    rw [if_neg (by simp)]
    refine j15 _ ?_ (by simp [joinL]; omega)
    rw [hsn]
    simp [joinL]
   ·have hne : (l[i].Features.take k).map ftS ≠ [] := by
     intro hz
     have := congrArg List.length hz
     rw [List.length_map, List.length_take, List.length_nil] at this
     omega
    rw [if_pos (by simp only [decide_eq_true_eq]; omega), catq (by rw [List.length_append, h5]; omega), Option.bind_some]
    refine j15 _ ?_ (by simp only [List.length_append, h5]; omega)
    rw [hsn, if_neg hne]
    simp only [List.append_assoc]
  ·rw [if_neg (by simp only [decide_eq_true_eq]; omega), List.take_of_length_le (by omega)]
theorem qs_w (L : List TSQuery) (hq : ∀ q, q ∈ L → QOK q) : wL COM.length (L.map qT) ≤ 60 * bulkE (L.map e_TSQuery) := by
 induction L with
 | nil => simp [wL]
 | cons q r ih =>
  have h1 := qT_len (hq q (List.mem_cons_self ..))
  have h2 := ih fun x hx => hq x (List.mem_cons_of_mem _ hx)
  have h3 : bulkE (q.Features.map e_TSFeature) = 2 * q.Features.length := by
   generalize q.Features = F
   induction F with
   | nil => rfl
   | cons f t ih2 => simp only [List.map_cons, bulkE, e_TSFeature, bulkL, bulkC, ih2, List.length_cons, cI]; omega
  have hc : COM.length = 2 := rfl
  simp only [wL, List.map_cons, List.sum_cons, bulkE, e_TSQuery, bulkL, bulkC, h3, hc, cB] at h2 ⊢
  omega
theorem ref_l2 (l : List TSQuery) (hn : l.length ≤ 1000000) (hq : ∀ q, q ∈ l → QOK q) (hW : wL COM.length (l.map qT) ≤ 100000000) (K : List UInt8 → Option (List UInt8)) : ∀ (N i : Nat), l.length - i < N → i ≤ l.length → Zf l K N (joinL COM ((l.take i).map qT)) (i : Int) = K (joinL COM (l.map qT))
 | 0, i, hN, hi => by omega
 | N + 1, i, hN, hi => by
  rw [Zf]
  by_cases h : i < l.length
  ·have hqi := hq _ (List.getElem_mem h)
   have h2q := hqi.2
   have hw : wi ((i : Int) + 1) = ((i + 1 : Nat) : Int) := by rw [wi_id (by omega) (by omega)]; omega
   have e : (l.take (i + 1)).map qT = (l.take i).map qT ++ [qT l[i]] := by
    rw [List.take_add_one, List.getElem?_eq_getElem h, List.map_append]
    rfl
   have hsn := joinL_snoc COM ((l.take i).map qT) (qT l[i])
   rw [← e] at hsn
   have hlen := joinL_len COM ((l.take i).map qT)
   have hwt := wL_take COM.length (l.map qT) i
   rw [← List.map_take] at hwt
   have hc : COM.length = 2 := rfl
   have hN4 : NOT.length = 4 := rfl
   have ih := ref_l2 l hn hq hW K N (i + 1) (by omega) (by omega)
   have j12 : ∀ T, T ++ joinL AND (l[i].Features.map ftS) = joinL COM ((l.take (i + 1)).map qT) → T.length ≤ 500000000 → Z26 l (i : Int) (Zf l K N) K T = K (joinL COM (l.map qT)) := by
    intro T hT hTl
    unfold Z26
    refine limF_eq (l[i].Features.length + 1) fun k hk => ?_
    have := ref_l3 l i h hqi T (by omega) (fun s_5 => Zf l K N s_5 (wi ((i : Int) + 1))) k 0 (by omega) (by omega)
    have e0 : T ++ joinL AND ((l[i].Features.take 0).map ftS) = T := by simp [joinL]
    rw [e0] at this
    refine this.trans ?_
    rw [hw, hT]
    exact ih
   have j11 : ∀ T, T ++ qT l[i] = joinL COM ((l.take (i + 1)).map qT) → T.length ≤ 400000000 → Z27 l (i : Int) (Zf l K N) K T = K (joinL COM (l.map qT)) := by
    intro T hT hTl
    unfold Z27
    rw [at_some h, Option.bind_some]
    unfold qT at hT
    cases hnot : l[i].Not with
    | true =>
     rw [hnot, if_pos rfl, ← List.append_assoc] at hT
     rw [if_pos rfl, catq (by rw [hN4]; omega), Option.bind_some]
     exact j12 _ hT (by rw [List.length_append, hN4]; omega)
    | false =>
     rw [hnot, if_neg (by simp), List.nil_append] at hT
     rw [if_neg (by simp)]
     exact j12 _ hT (by omega)
   rw [if_pos (by simp only [decide_eq_true_eq]; omega)]
   by_cases h0 : i = 0
   ·subst h0
    rw [if_neg (by simp)]
    refine j11 _ ?_ (by simp [joinL])
    rw [hsn]
    simp [joinL]
   ·have hne : (l.take i).map qT ≠ [] := by
     intro hz
     have := congrArg List.length hz
     rw [List.length_map, List.length_take, List.length_nil] at this
     omega
    rw [if_pos (by simp only [decide_eq_true_eq]; omega), catq (by rw [hc]; omega), Option.bind_some]
    refine j11 _ ?_ (by rw [List.length_append, hc]; omega)
    rw [hsn, if_neg hne]
  ·rw [if_neg (by simp only [decide_eq_true_eq]; omega), List.take_of_length_le (by omega)]
noncomputable def fxD (f : TSFeature) : FeatX := (f.Kind, Lib.decDigits f.Num.toNat)
noncomputable def qxD (q : TSQuery) : QryX := ⟨q.Not, q.Features.map fxD⟩
theorem fok_of {f : TSFeature} (h : RF f) : FOK f (fxD f) := by
 obtain ⟨h1, h2, h3, h4⟩ := h
 refine ⟨rfl, h1, h2, fun hk => ?_, h4⟩
 obtain ⟨g1, g2⟩ := h3 hk
 have hl := dec_len 6 f.Num.toNat (by omega)
 refine ⟨trim_digits _ (by show (Lib.decDigits _).length ≤ _; omega) (dec_isD _), ?_, g2, by show (Lib.decDigits _).length ≤ _; omega⟩
 have := atoi_dec f.Num.toNat (by omega)
 rwa [show ((f.Num.toNat : Nat) : Int) = f.Num by omega] at this
theorem qx_of {q : TSQuery} (h : QOK q) : QX fxD q (qxD q) := ⟨rfl, rfl, fun f hf => fok_of (h.1 f hf)⟩
theorem qok_of {q : TSQuery} (h : q.Features ≠ []) : QryOK (qxD q) := by
 refine ⟨by show q.Features.map fxD ≠ []; simpa using h, fun x hx => ?_⟩
 obtain ⟨f, _, rfl⟩ := List.mem_map.1 (show x ∈ q.Features.map fxD from hx)
 exact ⟨dec_isD _, dec_ne _⟩
theorem qT_x (q : TSQuery) : qryX (qxD q) = qT q := by
 unfold qryX qT qxD
 simp only [List.map_map]
 rfl
/-! ### what holds -/
def soB (a : Bool × Bool) (x : Int) : Prop := (x = 1 ↔ (a.1 && a.2) = true) ∧ (x = -1 ↔ (a.2 && !a.1) = true)
theorem so_b (b : Bool) : soB (b, true) (Z6 b) := by cases b <;> simp [Z6, soB]
theorem so_two {c : Prop} [Decidable c] {a b : Bool × Bool} {x y : Int} (h1 : soB a x) (h2 : soB b y) : soB (if c then a else b) (if c then x else y) := by split <;> assumption
theorem so_same (f : TSFeature) (env : TEnv) : soB (Z0 f env) (Z1 f env) := by
 unfold Z0 Z1
 iterate 11 refine so_two (so_b _) ?_
 simp [soB]
theorem holds_ref (q : TSQuery) (env : TEnv) (hq : q.Features.length ≤ 1000000) : ∃ b : Bool, Z22 q env = some b ∧ (b = true ↔ HoldsQ env q) := by
 unfold Z22
 obtain ⟨s, ⟨ha, hb⟩, e⟩ := rounds_all (σ := Bool × Bool) (fun m s i => Ze q env (fun (all_1 : Bool) (none_1 : Bool) => if q.Not then some none_1 else some all_1) m s.1 s.2 i) (fun s => if q.Not then some s.2 else some s.1) q.Features.length
  (fun i s => (s.1 = true ↔ ∀ f, f ∈ q.Features.take i → Z1 f env = 1) ∧ (s.2 = true ↔ ∃ f, f ∈ q.Features.take i ∧ Z1 f env = -1)) (true, false) ⟨by simp, by simp⟩
  (fun m s _ => by
   show Ze q env _ (m + 1) s.1 s.2 (q.Features.length : Int) = _
   rw [Ze, if_neg (lt_neg _)])
  (fun s i hi hI => by
   obtain ⟨ha, hb⟩ := hI
   have hs := so_same q.Features[i] env
   refine ⟨((s.1 && ((Z0 q.Features[i] env).1)) && ((Z0 q.Features[i] env).2), s.2 || (((Z0 q.Features[i] env).2) && (!(Z0 q.Features[i] env).1))), ?_, fun m => ?_⟩
   ·rw [take_succ_get hi]
    simp only [List.mem_append, List.mem_singleton]
    have e1 : (∀ f, f ∈ q.Features.take i ∨ f = q.Features[i] → Z1 f env = 1) ↔ (s.1 = true ∧ Z1 q.Features[i] env = 1) := by
     rw [ha]
     constructor
     ·intro h; exact ⟨fun f hf => h f (.inl hf), h _ (.inr rfl)⟩
     ·rintro ⟨h1, h2⟩ f (hf | rfl)
      ·exact h1 f hf
      ·exact h2
    have e2 : (∃ f, (f ∈ q.Features.take i ∨ f = q.Features[i]) ∧ Z1 f env = -1) ↔ (s.2 = true ∨ Z1 q.Features[i] env = -1) := by
     rw [hb]
     constructor
     ·rintro ⟨f, hf | rfl, h⟩
      ·exact .inl ⟨f, hf, h⟩
      ·exact .inr h
     ·rintro (⟨f, hf, h⟩ | h)
      ·exact ⟨f, .inl hf, h⟩
      ·exact ⟨_, .inr rfl, h⟩
    rw [e1, e2, hs.1, hs.2]
    simp only [Bool.and_eq_true, Bool.or_eq_true, and_assoc, true_and]
    try exact ⟨trivial, trivial⟩
   ·show Ze q env _ (m + 1) s.1 s.2 (i : Int) = Ze q env _ m _ _ _
    rw [Ze, if_pos (lt_pos hi), at_some hi, Option.bind_some, wi_next hi (by omega)])
 rw [List.take_length] at ha hb
 unfold HoldsQ
 refine Exists.intro (if q.Not then s.2 else s.1) ⟨e.trans ?_, ?_⟩
 ·cases q.Not <;> rfl
 ·cases q.Not with
  | true => exact hb
  | false => exact ha
/-! ### the law's own rounds -/
theorem right_rf {f : TSFeature} (h : Za f = true) : RF f := by
 unfold Za at h
 simp only [Bool.and_eq_true, Bool.or_eq_true, decide_eq_true_eq, Bool.not_eq_true', Bool.and_eq_false_iff, decide_eq_false_iff_not] at h
 unfold RF
 omega
theorem law_l9 (l : List TSQuery) (i : Nat) (hi : i < l.length) (hn : l[i].Features.length ≤ 1000000) (any : Bool) (env : TEnv) (K : Unit → Option Bool) : ((∀ f, f ∈ l[i].Features → Za f = true) ∧ (lim fun kk => Z3 l (i : Int) true any env K kk 0) = K ()) ∨ (lim fun kk => Z3 l (i : Int) true any env K kk 0) = some true := by
 have main : ∀ (c j : Nat), j + c = l[i].Features.length → (∀ f, f ∈ l[i].Features.take j → Za f = true) → ((∀ f, f ∈ l[i].Features → Za f = true) ∧ ∀ m, Z3 l (i : Int) true any env K (m + c + 1) (j : Int) = K ()) ∨ ∀ m, Z3 l (i : Int) true any env K (m + c + 1) (j : Int) = some true := by
  intro c
  induction c with
  | zero =>
   intro j hj h
   obtain rfl : j = l[i].Features.length := by omega
   rw [List.take_length] at h
   refine .inl ⟨h, fun m => ?_⟩
   rw [Z3, at_some hi, Option.bind_some, if_neg (lt_neg _)]
  | succ c ih =>
   intro j hj h
   have hjl : j < l[i].Features.length := by omega
   cases hr : Za l[i].Features[j] with
   | false =>
    refine .inr fun m => ?_
    rw [Z3, at_some hi, Option.bind_some, if_pos (lt_pos hjl), Option.bind_some, at_some hjl, Option.bind_some, hr, if_pos (by rfl)]
   | true =>
    have step : ∀ m, Z3 l (i : Int) true any env K (m + (c + 1) + 1) (j : Int) = Z3 l (i : Int) true any env K (m + c + 1) ((j + 1 : Nat) : Int) := fun m => by
     rw [Z3, at_some hi, Option.bind_some, if_pos (lt_pos hjl), Option.bind_some, at_some hjl, Option.bind_some, hr, if_neg (by simp), wi_next hjl (by omega), show m + (c + 1) = m + c + 1 by omega]
    rcases ih (j + 1) (by omega) (by
     intro f hf
     rw [take_succ_get hjl, List.mem_append, List.mem_singleton] at hf
     rcases hf with hf | rfl
     ·exact h f hf
     ·exact hr) with ⟨a, b⟩ | b
    ·exact .inl ⟨a, fun m => by rw [step, b]⟩
    ·exact .inr fun m => by rw [step, b]
 rcases main l[i].Features.length 0 (by omega) (by simp) with ⟨a, b⟩ | b
 ·exact .inl ⟨a, lim_add (l[i].Features.length + 1) fun m => b m⟩
 ·exact .inr (lim_add (l[i].Features.length + 1) fun m => b m)
theorem law_l6 (l : List TSQuery) (hn : l.length ≤ 1000000) (hf : ∀ q, q ∈ l → q.Features.length ≤ 1000000) (env : TEnv) (K : Bool → Option Bool) (any0 : Bool) : (∃ b : Bool, (∀ q, q ∈ l → (∀ f, f ∈ q.Features → RF f) ∧ q.Features ≠ []) ∧ (b = true ↔ any0 = true ∨ ∃ q, q ∈ l ∧ HoldsQ env q) ∧ (lim fun kk => Z2 l true env K kk any0 0) = K b) ∨ (lim fun kk => Z2 l true env K kk any0 0) = some true := by
 have main : ∀ (c j : Nat) (any : Bool), j + c = l.length → (∀ q, q ∈ l.take j → (∀ f, f ∈ q.Features → RF f) ∧ q.Features ≠ []) → (any = true ↔ any0 = true ∨ ∃ q, q ∈ l.take j ∧ HoldsQ env q) →
   (∃ b : Bool, (∀ q, q ∈ l → (∀ f, f ∈ q.Features → RF f) ∧ q.Features ≠ []) ∧ (b = true ↔ any0 = true ∨ ∃ q, q ∈ l ∧ HoldsQ env q) ∧ ∀ m, Z2 l true env K (m + c + 1) any (j : Int) = K b) ∨ ∀ m, Z2 l true env K (m + c + 1) any (j : Int) = some true := by
  intro c
  induction c with
  | zero =>
   intro j any hj h1 h2
   obtain rfl : j = l.length := by omega
   rw [List.take_length] at h1 h2
   refine .inl ⟨any, h1, h2, fun m => ?_⟩
   rw [Z2, if_neg (lt_neg _)]
  | succ c ih =>
   intro j any hj h1 h2
   have hjl : j < l.length := by omega
   have hm := List.getElem_mem hjl
   obtain ⟨b, hb1, hb2⟩ := holds_ref l[j] env (hf _ hm)
   -- what comes behind one query
   have behind : ∀ (self : Bool → Int → Option Bool), ((at? l (j : Int)).bind fun x_3 => if decide ((x_3.Features.length : Int) = 0) then some true else if any then Z1i (j : Int) l true env self K true else (at? l (j : Int)).bind fun x_4 => (Z22 x_4 env).bind fun r_1 => Z1i (j : Int) l true env self K r_1) = if decide ((l[j].Features.length : Int) = 0) then some true else self (any || b) ((j + 1 : Nat) : Int) := by
    intro self
    rw [at_some hjl, Option.bind_some]
    split
    ·rfl
    ·unfold Z1i
     rw [Option.bind_some, hb1, Option.bind_some, wi_next hjl (by omega)]
     cases any <;> rfl
   by_cases hbad : (∃ f, f ∈ l[j].Features ∧ Za f = false) ∨ l[j].Features = []
   ·refine .inr fun m => ?_
    rw [Z2, if_pos (lt_pos hjl)]
    rcases law_l9 l j hjl (hf _ hm) any env _ with ⟨g1, g2⟩ | g
    ·refine g2.trans ?_
     rw [behind, if_pos]
     rcases hbad with ⟨f, hf1, hf2⟩ | hb0
     ·rw [g1 f hf1] at hf2; cases hf2
     ·rw [hb0]; rfl
    ·exact g
   ·have hgood : (∀ f, f ∈ l[j].Features → Za f = true) ∧ l[j].Features ≠ [] := by
     refine ⟨fun f hf1 => ?_, fun h => hbad (.inr h)⟩
     cases hr : Za f with
     | true => rfl
     | false => exact absurd (.inl ⟨f, hf1, hr⟩) hbad
    have hlen : (l[j].Features.length : Int) ≠ 0 := by
     intro h
     exact hgood.2 (List.eq_nil_of_length_eq_zero (by omega))
    have step : (∀ m, Z2 l true env K (m + (c + 1) + 1) any (j : Int) = Z2 l true env K (m + c + 1) (any || b) ((j + 1 : Nat) : Int)) ∨ ∀ m, Z2 l true env K (m + (c + 1) + 1) any (j : Int) = some true := by
     have one : ∀ m, Z2 l true env K (m + (c + 1) + 1) any (j : Int) = Z2 l true env K (m + c + 1) (any || b) ((j + 1 : Nat) : Int) ∨ Z2 l true env K (m + (c + 1) + 1) any (j : Int) = some true := fun m => by
      rw [Z2, if_pos (lt_pos hjl)]
      rcases law_l9 l j hjl (hf _ hm) any env _ with ⟨g1, g2⟩ | g
      ·left
       refine g2.trans ?_
       rw [behind, if_neg (by simpa using hgood.2), show m + (c + 1) = m + c + 1 by omega]
      ·exact .inr g
     -- the rounds inside do not hang on m
     have all9 : ∀ KK : Unit → Option Bool, (lim fun kk => Z3 l (j : Int) true any env KK kk 0) = KK () := fun KK => by
      have main9 : ∀ (c j2 : Nat), j2 + c = l[j].Features.length → ∀ m, Z3 l (j : Int) true any env KK (m + c + 1) (j2 : Int) = KK () := by
       intro c
       induction c with
       | zero =>
        intro j2 hj2 m
        obtain rfl : j2 = l[j].Features.length := by omega
        rw [Z3, at_some hjl, Option.bind_some, if_neg (lt_neg _)]
       | succ c ih9 =>
        intro j2 hj2 m
        have hjl2 : j2 < l[j].Features.length := by omega
        have hfl := hf _ hm
        rw [Z3, at_some hjl, Option.bind_some, if_pos (lt_pos hjl2), Option.bind_some, at_some hjl2, Option.bind_some, hgood.1 _ (List.getElem_mem hjl2), if_neg (by simp), wi_next hjl2 (by omega), show m + (c + 1) = m + c + 1 by omega]
        exact ih9 (j2 + 1) (by omega) m
      exact lim_add (l[j].Features.length + 1) fun m => main9 l[j].Features.length 0 (by omega) m
     left
     intro m
     rw [Z2, if_pos (lt_pos hjl), all9, behind, if_neg (by simpa using hgood.2), show m + (c + 1) = m + c + 1 by omega]
    rcases step with step | step
    ·rcases ih (j + 1) (any || b) (by omega) (by
      intro q hq
      rw [take_succ_get hjl, List.mem_append, List.mem_singleton] at hq
      rcases hq with hq | rfl
      ·exact h1 q hq
      ·exact ⟨fun f hf1 => right_rf (hgood.1 f hf1), hgood.2⟩) (by
      rw [Bool.or_eq_true, h2, hb2, take_succ_get hjl]
      simp only [List.mem_append, List.mem_singleton]
      constructor
      ·rintro ((h | ⟨q, hq, h⟩) | h)
       ·exact .inl h
       ·exact .inr ⟨q, .inl hq, h⟩
       ·exact .inr ⟨_, .inr rfl, h⟩
      ·rintro (h | ⟨q, hq | rfl, h⟩)
       ·exact .inl (.inl h)
       ·exact .inl (.inr ⟨q, hq, h⟩)
       ·exact .inr h) with ⟨b', g1, g2, g3⟩ | g
     ·exact .inl ⟨b', g1, g2, fun m => by rw [step, g3]⟩
     ·exact .inr fun m => by rw [step, g]
    ·exact .inr step
 rcases main l.length 0 any0 (by omega) (by simp) (by simp) with ⟨b, g1, g2, g3⟩ | g
 ·exact .inl ⟨b, g1, g2, lim_add (l.length + 1) fun m => g3 m⟩
 ·exact .inr (lim_add (l.length + 1) fun m => g m)
theorem read_nil (env : TEnv) : ∃ Q, Zr [] = some (Q, 0) ∧ Q.length ≤ 1000000 ∧ (∀ q, q ∈ Q → q.Features.length ≤ 1000000) ∧ ∃ q, q ∈ Q ∧ HoldsQ env q := by
 refine ⟨[⟨false, [⟨1, 0⟩]⟩], ?_, by simp, by simp, _, List.mem_singleton.2 rfl, ?_⟩
 ·unfold Zr
  rw [if_neg (by simp), cut_eq (by simp), Option.bind_some, cutS_nil, solid_eq _ (by simp), Option.bind_some, if_pos (by rfl)]
 ·unfold HoldsQ
  simp [Z1, Z6]
theorem env_eq (env : TEnv) : ((((decide (env.Width < 1)) || (decide (4000 < env.Width))) || (decide (env.Height < 1))) || (decide (4000 < env.Height))) = !(Z16 env) := by
 unfold Z16
 rw [Bool.eq_iff_iff]
 simp only [Bool.or_eq_true, decide_eq_true_eq, Bool.not_eq_true', Bool.and_eq_false_iff, decide_eq_false_iff_not]
 omega
theorem pureMediaHolds : PureMediaHolds := by
 intro l env hok henv hb
 simp only [bulkVs, bulkV, bulkC] at hb
 have hbq : ∀ L : List TSQuery, 2 * L.length + 2 * (L.map fun q => q.Features.length).sum ≤ bulkE (L.map e_TSQuery) := by
  intro L
  induction L with
  | nil => simp [bulkE]
  | cons q r ih =>
   have h3 : bulkE (q.Features.map e_TSFeature) = 2 * q.Features.length := by
    generalize q.Features = F
    induction F with
    | nil => rfl
    | cons f t ih2 => simp only [List.map_cons, bulkE, e_TSFeature, bulkL, bulkC, ih2, List.length_cons, cI]; omega
   simp only [List.map_cons, List.sum_cons, List.length_cons, bulkE, e_TSQuery, bulkL, bulkC, h3, cB] at ih ⊢
   omega
 have h1 := hbq l
 have hn : l.length ≤ 600000 := by omega
 have hf : ∀ q, q ∈ l → q.Features.length ≤ 1000000 := by
  intro q hm
  have hsum : ∀ L : List TSQuery, q ∈ L → q.Features.length ≤ (L.map fun q => q.Features.length).sum := by
   intro L
   induction L with
   | nil => intro h; cases h
   | cons x r ih =>
    intro h
    rw [List.map_cons, List.sum_cons]
    rcases List.mem_cons.1 h with rfl | h
    ·omega
    ·have := ih h; omega
  have := hsum l hm
  omega
 unfold Z3c
 rw [wide_eq, Option.bind_some]
 rcases law_l6 l (by omega) hf env _ (decide ((l.length : Int) = 0)) with ⟨b, hgood, hbb, e⟩ | e
 ·refine e.trans ?_
  have hq : ∀ q, q ∈ l → QOK q := fun q hm => ⟨(hgood q hm).1, hf q hm⟩
  have hW := qs_w l hq
  have hR : Z2x l = some (joinL COM (l.map qT)) := by
   unfold Z2x
   refine limF_eq (l.length + 1) fun k hk => ?_
   exact ref_l2 l (by omega) hq (by omega) (fun s_1 => some s_1) k 0 (by omega) (by omega)
  rw [hR, Option.bind_some]
  by_cases h400 : 400 < (joinL COM (l.map qT)).length
  ·have hh : Z15 (joinL COM (l.map qT)) env = some (false, 2) := by
    unfold Z15 Zr
    rw [if_pos (by simp only [decide_eq_true_eq]; omega), Option.bind_some, if_pos (by decide)]
   rw [hh, Option.bind_some, if_pos (by simp only [decide_eq_true_eq]; omega)]
   rfl
  ·obtain ⟨Q, hr, hQ1, hQ2, hQ3⟩ : ∃ Q, Zr (joinL COM (l.map qT)) = some (Q, 0) ∧ Q.length ≤ 1000000 ∧ (∀ q, q ∈ Q → q.Features.length ≤ 1000000) ∧ ((∃ q, q ∈ Q ∧ HoldsQ env q) ↔ b = true) := by
    by_cases hnil : l = []
    ·subst hnil
     obtain ⟨Q, g1, g2, g3, g4⟩ := read_nil env
     refine ⟨Q, g1, g2, g3, ?_⟩
     rw [hbb]
     exact ⟨fun _ => .inl rfl, fun _ => g4⟩
    ·refine ⟨l, read_eq (fx := fxD) (qx := qxD) l hnil (fun q hm => qx_of (hq q hm)) (fun q hm => qok_of (hgood q hm).2) (by omega) hf _ ?_ (by omega), by omega, hf, ?_⟩
     ·rw [List.map_map]
      congr 1
      exact List.map_congr_left fun q _ => (qT_x q).symm
     ·rw [hbb]
      have hz : ¬ (decide ((l.length : Int) = 0) = true) := by
       have := List.length_pos_iff.2 hnil
       simp only [decide_eq_true_eq]; omega
      constructor
      ·exact fun h => .inr h
      ·rintro (h | h)
       ·exact absurd h hz
       ·exact h
   rw [holds_eq Q env hQ1 hQ2 _ hr, Option.bind_some, if_neg (by simp only [decide_eq_true_eq]; omega), env_eq]
   cases hE : Z16 env with
   | false => simp
   | true =>
    simp only [Bool.not_true, Bool.false_eq_true, if_false]
    have hd : @decide (∃ q, q ∈ Q ∧ HoldsQ env q) (Classical.propDecidable _) = b := by
     rw [Bool.eq_iff_iff, @decide_eq_true_iff _ (Classical.propDecidable _), hQ3]
    rw [hd]
    simp
 ·exact e
end Go.Proofs.YtkimpaokepfonaaGreatDoorBv
-- squeezed
