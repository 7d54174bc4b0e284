/- The law of the properties' initial values, over plain values. No program is in sight. -/
import Derived.Test.YtgfcmhomndofaaaDoorShStyleInitials
import Derived.Test.YtgfcmhomndofaaaDoorBv23
namespace Go.Proofs.YtgfcmhomndofaaaDoorBv
open Go
set_option linter.unusedSimpArgs false
set_option linter.unusedVariables false
theorem hasByte_loop (s : List UInt8) (c : Int) (K : Unit → Option Bool) (hs : s.length < 1000) : ∀ (d i : Nat), i + d = s.length → ∀ m, clerestoryref2_hasByte_l0 s c K (m + d + 1) (i : Int) = if (s.drop i).any (fun x => decide ((x.toNat : Int) = c)) then some true else K ()
  | 0, i, hi, m => by
    rw [clerestoryref2_hasByte_l0, if_neg (by simp only [decide_eq_true_eq]; omega), List.drop_eq_nil_of_le (by omega)]
    rfl
  | d + 1, i, hi, m => by
    have h : i < s.length := by omega
    rw [clerestoryref2_hasByte_l0, if_pos (by simp only [decide_eq_true_eq]; omega), at_some h, Option.bind_some, wi_id (by omega) (by omega), show (i : Int) + 1 = ((i + 1 : Nat) : Int) by omega, show m + (d + 1) = m + d + 1 by omega, hasByte_loop s c K hs d (i + 1) (by omega) m, List.drop_eq_getElem_cons h, List.any_cons]
    by_cases hc : ((s[i].toNat : Int) = c) <;> simp [hc]
theorem hasByte_eq (s : List UInt8) (c : Int) (hs : s.length < 1000) : clerestoryref2_hasByte s c = some (s.any fun x => decide ((x.toNat : Int) = c)) := by
  unfold clerestoryref2_hasByte
  refine lim_add (s.length + 1) fun m => ?_
  have := hasByte_loop s c (fun _ => some false) hs s.length 0 (by omega) m
  rw [← Nat.add_assoc]
  refine this.trans ?_
  rw [List.drop_zero]
  cases s.any fun x => decide ((x.toNat : Int) = c) <;> rfl
theorem In_loop (l : List (List UInt8)) (s : List UInt8) (K : Unit → Option Bool) (hl : l.length < 1000) : ∀ (d i : Nat), i + d = l.length → ∀ m, clerestoryref2_In_l0 l s K (m + d + 1) (i : Int) = if (l.drop i).any (fun x => decide (x = s)) then some true else K ()
  | 0, i, hi, m => by
    rw [clerestoryref2_In_l0, if_neg (by simp only [decide_eq_true_eq]; omega), List.drop_eq_nil_of_le (by omega)]
    rfl
  | d + 1, i, hi, m => by
    have h : i < l.length := by omega
    rw [clerestoryref2_In_l0, if_pos (by simp only [decide_eq_true_eq]; omega), at_some h, Option.bind_some, wi_id (by omega) (by omega), show (i : Int) + 1 = ((i + 1 : Nat) : Int) by omega, show m + (d + 1) = m + d + 1 by omega, In_loop l s K hl d (i + 1) (by omega) m, List.drop_eq_getElem_cons h, List.any_cons]
    by_cases hc : l[i] = s <;> simp [hc]
theorem In_eq (l : List (List UInt8)) (s : List UInt8) (hl : l.length < 1000) : clerestoryref2_In l s = some (l.any fun x => decide (x = s)) := by
  unfold clerestoryref2_In
  refine lim_add (l.length + 1) fun m => ?_
  have := In_loop l s (fun _ => some false) hl l.length 0 (by omega) m
  rw [← Nat.add_assoc]
  refine this.trans ?_
  rw [List.drop_zero]
  cases l.any fun x => decide (x = s) <;> rfl
def has (x : List UInt8) (c : Int) : Bool := x.any fun y => decide ((y.toNat : Int) = c)
/-- the document's answer, out of the letters of a property's kinds -/
def initialOf (p : Int) (x : List UInt8) : TVal :=
  if p = 37 then ⟨2, 1024⟩ else if 11 ≤ p ∧ p ≤ 14 then ⟨2, 0⟩ else if has x 97 then ⟨6, 0⟩ else if p = 0 ∨ p = 57 then ⟨1, 1⟩ else if p = 48 then ⟨1, 6⟩ else if has x 107 then ⟨1, 0⟩ else
  if p = 36 then ⟨5, 0⟩ else if has x 99 then ⟨5, 255⟩ else if p = 34 ∨ p = 51 then ⟨4, 1000⟩ else if has x 110 then ⟨4, 0⟩ else ⟨2, 0⟩
theorem initialOf_eq {p : Int} {x : List UInt8} (h0 : 0 ≤ p) (h : p < 59) (hx : at? clerestoryref2_PropKinds_t0 p = some x) (hl : x.length < 1000) : clerestoryref2_InitialOf p = some (initialOf p x) := by
  unfold clerestoryref2_InitialOf clerestoryref2_PropKinds
  rw [if_neg (by simp; omega), Option.bind_some, hx, Option.bind_some]
  simp only [hasByte_eq _ _ hl, Option.bind_some]
  unfold initialOf
  unfold has
  simp only [Bool.and_eq_true, Bool.or_eq_true, decide_eq_true_eq]
  repeat' split
  all_goals first | rfl | (exfalso; simp_all)
theorem inherits_eq {p : Int} {x : List UInt8} (h0 : 0 ≤ p) (h : p < 59) (hx : at? clerestoryref2_PropNames_t0 p = some x) : clerestoryref2_InheritsOf p = some (clerestoryref2_InheritsOf_t0.any fun y => decide (y = x)) := by
  unfold clerestoryref2_InheritsOf clerestoryref2_PropNames clerestoryref2_InheritsOf_j1
  rw [if_pos (by simp; omega), Option.bind_some, hx, Option.bind_some, In_eq _ _ (by decide), Option.bind_some]
/-- all places of the tables, one by one -/
theorem all_rows : ((List.range 59).all fun n => match style_Initial_t0[n]?, clerestoryref2_PropKinds_t0[n]?, clerestoryref2_PropNames_t0[n]? with
    | some a, some x, some y => decide (x.length < 1000) && (decide (a.Kind = (initialOf n x).Kind) && (decide (a.N = (initialOf n x).N) && (style_Inherits n == (clerestoryref2_InheritsOf_t0.any fun z => decide (z = y)))))
    | _, _, _ => false) = true := by decide +kernel
theorem pureStyleInitials : PureStyleInitials := by
  intro p hp
  have hp := ok_i64 hp
  unfold clerestorylaw2_StyleInitials
  have e37 : style_Initial 37 = some ⟨2, 1024⟩ := rfl
  rw [e37, Option.bind_some, if_pos (by decide)]
  by_cases hin : 0 ≤ p ∧ p < 59
  · obtain ⟨n, rfl⟩ : ∃ n : Nat, p = n := ⟨p.toNat, by omega⟩
    have hall := List.all_eq_true.1 all_rows n (List.mem_range.2 (by omega))
    split at hall
    · rename_i a x y h1 h2 h3
      simp only [Bool.and_eq_true, decide_eq_true_eq] at hall
      obtain ⟨hl, hk, hn, hi⟩ := hall
      have e1 : style_Initial n = some a := by
        unfold style_Initial
        rw [if_neg (by simp; omega), at_nat, h1]
        rfl
      rw [e1, Option.bind_some, initialOf_eq hin.1 hin.2 (by rw [at_nat]; exact h2) hl, Option.bind_some, if_pos (by rw [hk, hn]; simp), inherits_eq hin.1 hin.2 (by rw [at_nat]; exact h3), Option.bind_some, hi]
      rfl
    · cases hall
  · have e1 : style_Initial p = some ⟨0, 0⟩ := by
      unfold style_Initial
      rw [if_pos (by simp; omega)]
    have e2 : clerestoryref2_InitialOf p = some ⟨0, 0⟩ := by
      unfold clerestoryref2_InitialOf
      rw [if_pos (by simp; omega)]
    have e3 : clerestoryref2_InheritsOf p = some false := by
      unfold clerestoryref2_InheritsOf
      rw [if_neg (by simp; omega)]
      rfl
    rw [e1, e2, e3, Option.bind_some, Option.bind_some, if_pos (by decide), Option.bind_some]
    have e4 : style_Inherits p = false := by
      unfold style_Inherits
      repeat rw [if_neg (by rw [decide_eq_true_eq]; omega)]
      unfold style_Inherits_j1
      rw [if_neg (by rw [decide_eq_true_eq]; omega)]
    rw [e4]
    rfl
end Go.Proofs.YtgfcmhomndofaaaDoorBv
