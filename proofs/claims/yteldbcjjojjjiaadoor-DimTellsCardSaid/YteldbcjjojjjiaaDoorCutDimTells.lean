/- A text's tokens, as the program cuts them, as plain functions. No program is in sight. -/
import Derived.Test.YteldbcjjojjjiaaDoorNumDimTells
import Derived.Test.YteldbcjjojjjiaaDoorBv30
namespace Go.Proofs.YteldbcjjojjjiaaDoorBv
open Go
set_option linter.unusedSimpArgs false
set_option linter.unusedVariables false
def isStart (c : UInt8) : Bool := decide (128 ≤ c.toNat) || decide (c = 95) || (decide (97 ≤ c.toNat) && decide (c.toNat ≤ 122)) || (decide (65 ≤ c.toNat) && decide (c.toNat ≤ 90))
def isSign (c : UInt8) : Bool := isStart c || isD c || decide (c = 45)
def escS (s : List UInt8) : Bool := match s with
  | c :: d :: _ => decide (c = 92) && !decide (d = 10)
  | _ => false
def beginsS (s : List UInt8) : Bool := match s with
  | [] => false
  | c :: d :: r => if c = 45 then decide (d = 45) || isStart d || escS (d :: r) else isStart c || escS (c :: d :: r)
  | [c] => isStart c
def addN (l : List UInt8) (k : Nat) (x : List UInt8 × Nat) : List UInt8 × Nat := (l ++ x.1, k + x.2)
def nameS : List UInt8 → List UInt8 × Nat
  | [] => ([], 0)
  | [c] => if isSign c then ([c], 1) else ([], 0)
  | c :: d :: r => if c = 92 ∧ d ≠ 10 then addN [d] 2 (nameS r) else if isSign c then addN [c] 1 (nameS (d :: r)) else ([], 0)
theorem starts_eq (c : UInt8) : csstok_starts (c.toNat : Int) = isStart c := by
  have := u8_all (p := fun c => csstok_starts (c.toNat : Int) == isStart c) (by decide +kernel) c
  simpa using this
theorem digit_eq (c : UInt8) : csstok_digit (c.toNat : Int) = isD c := by
  unfold csstok_digit isD
  congr 1
  · rw [Bool.eq_iff_iff]; simp; omega
  · rw [Bool.eq_iff_iff]; simp; omega
theorem byte_is (c : UInt8) (k : Nat) (hk : k < 256) : decide ((c.toNat : Int) = (k : Int)) = decide (c = UInt8.ofNat k) := by
  have : ((c.toNat : Int) = (k : Int)) ↔ c = UInt8.ofNat k := by
    constructor
    · intro h; rw [← UInt8.ofNat_toNat (x := c)]; congr 1; omega
    · rintro rfl; simp; omega
  rw [Bool.eq_iff_iff]
  simpa using this
theorem sign_eq (c : UInt8) : csstok_sign (c.toNat : Int) = isSign c := by
  unfold csstok_sign isSign
  rw [starts_eq, digit_eq]
  congr 1
  exact byte_is c 45 (by omega)
theorem escape_eq (s : List UInt8) : csstok_escape s = some (escS s) := by
  unfold csstok_escape csstok_escape_j1
  match s with
  | [] => rfl
  | [c] => rfl
  | c :: d :: r =>
    have h0 : at? (c :: d :: r) 0 = some c := rfl
    have h1 : at? (c :: d :: r) 1 = some d := rfl
    rw [if_pos (by simp; omega), h0, Option.bind_some, h1, Option.bind_some]
    unfold escS
    rw [show decide ((c.toNat : Int) = 92) = decide (c = 92) from byte_is c 92 (by omega), show decide ((d.toNat : Int) = 10) = decide (d = 10) from byte_is d 10 (by omega)]
    by_cases hc : c = 92 <;> simp [hc]
theorem begins_eq (s : List UInt8) : csstok_begins s = some (beginsS s) := by
  unfold csstok_begins csstok_begins_j1 csstok_begins_j2
  match s with
  | [] => rfl
  | [c] =>
    have h0 : at? [c] 0 = some c := rfl
    rw [if_neg (by simp), h0, Option.bind_some, if_neg (by simp), Option.bind_some, starts_eq, escape_eq, Option.bind_some]
    show (if isStart c = true then some true else some false) = some (isStart c)
    cases isStart c <;> rfl
  | c :: d :: r =>
    have h0 : at? (c :: d :: r) 0 = some c := rfl
    have h1 : at? (c :: d :: r) 1 = some d := rfl
    have hs : sub? (c :: d :: r) 1 (((c :: d :: r).length : Nat) : Int) = some (d :: r) := sub_drop (a := 1) (by simp)
    rw [if_neg (by simp), h0, Option.bind_some, Option.bind_some, starts_eq, escape_eq, Option.bind_some, h1, Option.bind_some, Option.bind_some, starts_eq, hs, Option.bind_some, escape_eq, Option.bind_some,
      show decide ((c.toNat : Int) = 45) = decide (c = 45) from byte_is c 45 (by omega), show decide ((d.toNat : Int) = 45) = decide (d = 45) from byte_is d 45 (by omega)]
    rw [show beginsS (c :: d :: r) = if c = 45 then decide (d = 45) || isStart d || escS (d :: r) else isStart c || escS (c :: d :: r) from rfl]
    by_cases hc : c = 45
    · rw [if_pos (by simp [hc]; omega), if_pos hc]
      by_cases hd : d = 45
      · rw [if_pos (by simp [hd])]; simp [hd]
      · rw [if_neg (by simp [hd])]
        cases isStart d <;> simp [hd]
    · rw [if_neg (by simp [hc]), if_neg hc]
      cases isStart c <;> simp
theorem wb_eq {l : List UInt8} {c : UInt8} (h : l.length < 140737488355328) : strings_Builder_WriteByte l (c.toNat : Int) = some (l ++ [c]) := by
  show bWriteByte? l (c.toNat : Int) = _
  unfold bWriteByte?
  have := c.toNat_lt
  rw [if_pos ⟨by omega, by omega, by omega⟩]
  simp
theorem name_l0 (s : List UInt8) (hl : s.length < 140737488355328) : ∀ (N i : Nat) (b : List UInt8), s.length - i < N → i ≤ s.length → b.length ≤ i →
    csstok_name_l0 s (fun b i => some (b, i)) N b (i : Int) = some (b ++ (nameS (s.drop i)).1, ((i + (nameS (s.drop i)).2 : Nat) : Int))
  | 0, i, b, hN, hi, hb => by omega
  | N + 1, i, b, hN, hi, hb => by
    rw [csstok_name_l0]
    by_cases h : i < s.length
    · rw [if_pos (by simp only [decide_eq_true_eq]; omega), sub_drop hi, Option.bind_some, escape_eq, Option.bind_some, at_some h, Option.bind_some, Option.bind_some, sign_eq, wb_eq (by omega), Option.bind_some, wi_id (n := (i : Int) + 1) (by omega) (by omega), wi_id (n := (i : Int) + 2) (by omega) (by omega),
        show (i : Int) + 1 = ((i + 1 : Nat) : Int) by omega, show (i : Int) + 2 = ((i + 2 : Nat) : Int) by omega]
      have e1 := List.drop_eq_getElem_cons h
      rw [e1]
      by_cases h2 : i + 1 < s.length
      · have e2 := List.drop_eq_getElem_cons h2
        rw [e2, at_some h2, Option.bind_some, wb_eq (by omega), Option.bind_some, name_l0 s hl N (i + 2) _ (by omega) (by omega) (by simp; omega), name_l0 s hl N (i + 1) _ (by omega) (by omega) (by simp; omega)]
        unfold escS
        rw [show s.drop (i + 2) = s.drop (i + 1 + 1) from rfl]
        rw [show nameS (s[i] :: s[i + 1] :: s.drop (i + 1 + 1)) = if s[i] = 92 ∧ s[i + 1] ≠ 10 then addN [s[i + 1]] 2 (nameS (s.drop (i + 1 + 1))) else if isSign s[i] then addN [s[i]] 1 (nameS (s[i + 1] :: s.drop (i + 1 + 1))) else ([], 0) by rw [nameS]]
        by_cases hc : s[i] = 92 ∧ s[i + 1] ≠ 10
        · rw [if_pos (by simp [hc.1, hc.2]), if_pos hc]
          simp [addN]
          omega
        · rw [if_neg (by simp only [Bool.and_eq_true, decide_eq_true_eq, Bool.not_eq_true', decide_eq_false_iff_not]; exact hc), if_neg hc, e2]
          cases isSign s[i] with
          | true => simp [addN]; omega
          | false => simp
      · have e2 : s.drop (i + 1) = [] := List.drop_eq_nil_of_le (by omega)
        rw [e2, name_l0 s hl N (i + 1) _ (by omega) (by omega) (by simp; omega), e2, show escS [s[i]] = false from rfl, if_neg (by simp), show nameS [s[i]] = if isSign s[i] then ([s[i]], 1) else ([], 0) by rw [nameS], show nameS [] = ([], 0) by rw [nameS]]
        cases isSign s[i] <;> simp
    · rw [if_neg (by simp only [decide_eq_true_eq]; omega), List.drop_eq_nil_of_le (by omega), show nameS [] = ([], 0) by rw [nameS]]
      simp
theorem name_eq {s : List UInt8} (hl : s.length < 140737488355328) : csstok_name s = some ((nameS s).1, ((nameS s).2 : Int)) := by
  unfold csstok_name
  refine lim_of (s.length + 1) fun k hk => ?_
  have := name_l0 s hl k 0 [] (by omega) (by omega) (by simp)
  simpa using this
theorem nameS_le : ∀ (n : Nat) (s : List UInt8), s.length = n → (nameS s).2 ≤ s.length := by
  intro n
  induction n using Nat.strongRecOn with
  | _ n ih =>
    intro s hs
    match s with
    | [] => simp [nameS]
    | [c] => rw [nameS]; split <;> simp
    | c :: d :: r =>
      rw [nameS]
      simp only [List.length_cons] at hs
      split
      · have := ih r.length (by omega) r rfl
        simp [addN]; omega
      · split
        · have := ih (r.length + 1) (by omega) (d :: r) rfl
          simp [addN] at this ⊢; omega
        · simp
theorem named_eq {kind : Int} {s : List UInt8} {a : Nat} (hl : s.length < 140737488355328) (ha : a ≤ s.length) :
    csstok_named kind s (a : Int) = some ⟨kind, s.take (a + (nameS (s.drop a)).2), (nameS (s.drop a)).1, 0⟩ := by
  have h1 := nameS_le _ (s.drop a) rfl
  rw [List.length_drop] at h1
  unfold csstok_named
  rw [sub_drop ha, Option.bind_some, name_eq (by rw [List.length_drop]; omega), Option.bind_some, wi_id (by omega) (by omega), show (a : Int) + ((nameS (s.drop a)).2 : Int) = ((a + (nameS (s.drop a)).2 : Nat) : Int) by omega, sub_take (by omega), Option.bind_some]
theorem set_self {α : Type} {l : List α} {i : Nat} {a : α} (h : l[i]? = some a) : l.set i a = l := by
  obtain ⟨h1, h2⟩ := List.getElem?_eq_some_iff.1 h
  rw [← h2]
  exact List.set_getElem_self h1
def lowB (c : UInt8) : UInt8 := if 65 ≤ c.toNat ∧ c.toNat ≤ 90 then c + 32 else c
theorem lower_l0 (s : List UInt8) (hl : s.length < 140737488355328) : ∀ (N i : Nat), s.length - i < N → i ≤ s.length →
    csstok_lower_l0 (fun b => some (byts b)) N (ints ((s.take i).map lowB ++ s.drop i)) (s.length : Int) (i : Int) = some (s.map lowB)
  | 0, i, hN, hi => by omega
  | N + 1, i, hN, hi => by
    rw [csstok_lower_l0]
    by_cases h : i < s.length
    · have hlen : ((s.take i).map lowB).length = i := by simp; omega
      have hg : ((s.take i).map lowB ++ s.drop i)[i]? = some s[i] := by
        rw [List.getElem?_append_right (by omega), hlen]
        simp [h]
      have ih := lower_l0 s hl N (i + 1) (by omega) (by omega)
      have eset : ((s.take i).map lowB ++ s.drop i).set i (lowB s[i]) = (s.take (i + 1)).map lowB ++ s.drop (i + 1) := by
        rw [List.set_append_right _ _ (by omega), hlen, List.drop_eq_getElem_cons h, Nat.sub_self, List.set_cons_zero, List.take_add_one, List.getElem?_eq_getElem h]
        simp only [Option.toList_some, List.map_append, List.map_cons, List.map_nil, List.append_assoc, List.cons_append, List.nil_append]
      rw [if_pos (by simp only [decide_eq_true_eq]; omega), at_nat, ints_get, hg, Option.map_some, Option.bind_some]
      unfold csstok_lower_j3
      rw [wi_id (by omega) (by omega), show (i : Int) + 1 = ((i + 1 : Nat) : Int) by omega]
      have hint : ∀ c : UInt8, (ints ((s.take i).map lowB ++ s.drop i)).set i (c.toNat : Int) = ints (((s.take i).map lowB ++ s.drop i).set i c) := by
        intro c
        unfold ints
        rw [List.map_set]
      by_cases hc : 65 ≤ s[i].toNat ∧ s[i].toNat ≤ 90
      · have e : lowB s[i] = s[i] + 32 := by unfold lowB; rw [if_pos hc]
        have e2 : wr .u8 ((s[i].toNat : Int) + 32) = ((lowB s[i]).toNat : Int) := by
          rw [e, wr_u8, UInt8.toNat_add]
          have : (32 : UInt8).toNat = 32 := rfl
          omega
        rw [if_pos (by simp; omega), Option.bind_some, e2, show ((i : Int)).toNat = i from rfl, hint, eset]
        exact ih
      · have e : lowB s[i] = s[i] := by unfold lowB; rw [if_neg hc]
        rw [if_neg (by simp; omega)]
        have : (s.take i).map lowB ++ s.drop i = (s.take (i + 1)).map lowB ++ s.drop (i + 1) := by
          rw [← eset, e]
          exact (set_self hg).symm
        rw [this]
        exact ih
    · have : i = s.length := by omega
      subst this
      rw [if_neg (by simp)]
      simp [byts_ints]
theorem lower_eq {s : List UInt8} (hl : s.length < 140737488355328) : csstok_lower s = some (s.map lowB) := by
  unfold csstok_lower
  refine lim_of (s.length + 1) fun k hk => ?_
  have := lower_l0 s hl k 0 (by omega) (by omega)
  rw [ints_length]
  simpa using this
def numberS (s : List UInt8) (num : Int) (n : Nat) : TSToken := match s.drop n with
  | [] => ⟨7, s.take n, [], num⟩
  | c :: r => if c = 37 then ⟨7, s.take (n + 1), [37], num⟩ else if beginsS (c :: r) then ⟨7, s.take (n + (nameS (c :: r)).2), (nameS (c :: r)).1.map lowB, num⟩ else ⟨7, s.take n, [], num⟩
theorem nameS_len : ∀ (n : Nat) (s : List UInt8), s.length = n → (nameS s).1.length ≤ s.length := by
  intro n
  induction n using Nat.strongRecOn with
  | _ n ih =>
    intro s hs
    match s with
    | [] => simp [nameS]
    | [c] => rw [nameS]; split <;> simp
    | c :: d :: r =>
      rw [nameS]
      simp only [List.length_cons] at hs
      split
      · have := ih r.length (by omega) r rfl
        simp [addN]; omega
      · split
        · have := ih (r.length + 1) (by omega) (d :: r) rfl
          simp [addN] at this ⊢; omega
        · simp
theorem number_eq {s : List UInt8} {num : Int} {n : Nat} (hl : s.length < 140737488355328) (hn : n ≤ s.length) : csstok_number s num (n : Int) = some (numberS s num n) := by
  unfold csstok_number csstok_number_j1 numberS
  rw [sub_take hn, Option.bind_some, sub_drop hn, Option.bind_some, hasPrefix1, Option.bind_some, begins_eq, Option.bind_some]
  cases hd : s.drop n with
  | nil => rfl
  | cons c r =>
    have hlr := congrArg List.length hd
    simp only [List.length_drop, List.length_cons] at hlr
    simp only [List.head?_cons, Option.some.injEq]
    by_cases hc : c = 37
    · rw [if_pos (by simpa using hc), if_pos hc, wi_id (by omega) (by omega), show (n : Int) + 1 = ((n + 1 : Nat) : Int) by omega, sub_take (by omega), Option.bind_some]
    · rw [if_neg (by simpa using hc), if_neg hc]
      cases hb : beginsS (c :: r) with
      | false => rfl
      | true =>
        have h1 := nameS_le _ (c :: r) rfl
        have h2 := nameS_len _ (c :: r) rfl
        simp only [List.length_cons] at h1 h2
        rw [if_pos rfl, if_pos rfl, name_eq (by simp only [List.length_cons]; omega), Option.bind_some, wi_id (by omega) (by omega), show (n : Int) + ((nameS (c :: r)).2 : Int) = ((n + (nameS (c :: r)).2 : Nat) : Int) by omega, sub_take (by omega), Option.bind_some, lower_eq (s := (nameS (c :: r)).1) (by omega), Option.bind_some]
/-- a text between quotes 'q', behind the first: its value, how many bytes, and how it ends: 0 with the quote, 1 with a line's end, 2 with the text's -/
def textS (q : UInt8) : List UInt8 → List UInt8 × Nat × Nat
  | [] => ([], 0, 2)
  | [c] => if c = q then ([], 0, 0) else if c = 10 then ([], 0, 1) else ([c], 1, 2)
  | c :: d :: r => if c = q then ([], 0, 0) else if c = 10 then ([], 0, 1) else if c = 92 then (let x := textS q r; (d :: x.1, x.2.1 + 2, x.2.2)) else (let x := textS q (d :: r); (c :: x.1, x.2.1 + 1, x.2.2))
def textT (s : List UInt8) (b : List UInt8) (i : Nat) (x : List UInt8 × Nat × Nat) : TSToken :=
  if x.2.2 = 0 then ⟨5, s.take (i + x.2.1 + 1), b ++ x.1, 0⟩ else if x.2.2 = 1 then ⟨6, s.take (i + x.2.1), [], 0⟩ else ⟨6, s, [], 0⟩
theorem text_l0 (s : List UInt8) (q : UInt8) (hq : s[0]? = some q) (hl : s.length < 140737488355328) : ∀ (N i : Nat) (b : List UInt8), s.length - i < N → i ≤ s.length → b.length ≤ i →
    csstok_text_l0 s (fun _ => some ⟨6, s, [], 0⟩) N b (i : Int) = some (textT s b i (textS q (s.drop i)))
  | 0, i, b, hN, hi, hb => by omega
  | N + 1, i, b, hN, hi, hb => by
    rw [csstok_text_l0]
    have a0 : at? s 0 = some q := by
      have := at_nat s 0
      rw [hq] at this
      exact this
    by_cases h : i < s.length
    · rw [if_pos (by simp only [decide_eq_true_eq]; omega), at_some h, Option.bind_some, a0, Option.bind_some]
      have e1 := List.drop_eq_getElem_cons h
      have eq0 : decide ((s[i].toNat : Int) = (q.toNat : Int)) = decide (s[i] = q) := by
        have := byte_is s[i] q.toNat q.toNat_lt
        rwa [UInt8.ofNat_toNat] at this
      rw [eq0, show decide ((s[i].toNat : Int) = 10) = decide (s[i] = 10) from byte_is _ 10 (by omega), show decide ((s[i].toNat : Int) = 92) = decide (s[i] = 92) from byte_is _ 92 (by omega), wi_id (n := (i : Int) + 1) (by omega) (by omega), show (i : Int) + 1 = ((i + 1 : Nat) : Int) by omega, sub_take (by omega), Option.bind_some, sub_take hi, Option.bind_some, wb_eq (by omega), Option.bind_some]
      unfold csstok_text_j3
      rw [wi_id (n := ((i + 1 : Nat) : Int) + 1) (by omega) (by omega), wi_id (n := (i : Int) + 1) (by omega) (by omega), show ((i + 1 : Nat) : Int) + 1 = ((i + 2 : Nat) : Int) by omega, show (i : Int) + 1 = ((i + 1 : Nat) : Int) by omega]
      rw [text_l0 s q hq hl N (i + 1) (b ++ [s[i]]) (by omega) (by omega) (by simp; omega), e1]
      by_cases h2 : i + 1 < s.length
      · have e2 := List.drop_eq_getElem_cons h2
        rw [e2, textS, at_some h2, Option.bind_some, wb_eq (by omega), Option.bind_some, text_l0 s q hq hl N (i + 2) (b ++ [s[i + 1]]) (by omega) (by omega) (by simp; omega)]
        by_cases c1 : s[i] = q
        · rw [if_pos (by simpa using c1), if_pos c1]; simp [textT]
        · rw [if_neg (by simpa using c1), if_neg c1]
          by_cases c2 : s[i] = 10
          · rw [if_pos (by simpa using c2), if_pos c2]; simp [textT]
          · rw [if_neg (by simpa using c2), if_neg c2]
            by_cases c3 : s[i] = 92
            · rw [if_pos (by simp [c3]; omega), if_pos c3]
              simp only [textT, List.append_assoc, List.cons_append, List.nil_append]
              rw [show i + 2 + (textS q (s.drop (i + 2))).2.1 + 1 = i + ((textS q (s.drop (i + 2))).2.1 + 2) + 1 by omega, show i + 2 + (textS q (s.drop (i + 2))).2.1 = i + ((textS q (s.drop (i + 2))).2.1 + 2) by omega]
            · rw [if_neg (by simp [c3]), if_neg c3]
              simp only [textT, List.append_assoc, List.cons_append, List.nil_append]
              generalize textS q (s[i + 1] :: s.drop (i + 1 + 1)) = x
              rw [show i + 1 + x.2.1 + 1 = i + (x.2.1 + 1) + 1 by omega, show i + 1 + x.2.1 = i + (x.2.1 + 1) by omega]
      · have e2 : s.drop (i + 1) = [] := List.drop_eq_nil_of_le (by omega)
        rw [e2, show textS q [] = ([], 0, 2) by rw [textS], show textS q [s[i]] = if s[i] = q then ([], 0, 0) else if s[i] = 10 then ([], 0, 1) else ([s[i]], 1, 2) by rw [textS]]
        by_cases c1 : s[i] = q
        · rw [if_pos (by simpa using c1), if_pos c1]; simp [textT]
        · rw [if_neg (by simpa using c1), if_neg c1]
          by_cases c2 : s[i] = 10
          · rw [if_pos (by simpa using c2), if_pos c2]; simp [textT]
          · rw [if_neg (by simpa using c2), if_neg c2, if_neg (by simp; intros; omega)]
            simp [textT]
    · rw [if_neg (by simp only [decide_eq_true_eq]; omega), List.drop_eq_nil_of_le (by omega), show textS q [] = ([], 0, 2) by rw [textS]]
      simp [textT]
theorem text_eq {s : List UInt8} {q : UInt8} (hq : s[0]? = some q) (hl : s.length < 140737488355328) : csstok_text s = some (textT s [] 1 (textS q (s.drop 1))) := by
  have hne : 1 ≤ s.length := by
    cases s with
    | nil => cases hq
    | cons => simp
  unfold csstok_text
  exact lim_of (s.length + 1) fun k hk => text_l0 s q hq hl k 1 [] (by omega) hne (by simp)
end Go.Proofs.YteldbcjjojjjiaaDoorBv
