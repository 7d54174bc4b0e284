/- All tokens of a text, as the document cuts them: the same. No program is in sight. -/
import Derived.Test.YtdmmjgjmfpalhaaDoorRCutDimReads
namespace Go.Proofs.YtdmmjgjmfpalhaaDoorBv
open Go
set_option linter.unusedSimpArgs false
set_option linter.unusedVariables false
/-- what is behind the text between quotes -/
noncomputable abbrev rtextK (s : List UInt8) (value1 : List UInt8) (i_1 : Int) : Option TSToken :=
      if decide (i_1 < (s.length : Int)) then
        (at? s i_1).bind fun c_4 =>
        (at? s 0).bind fun c_5 =>
        clerestoryref2_textAt_j7 s i_1 value1 (decide ((c_4.toNat : Int) = (c_5.toNat : Int)))
      else
        clerestoryref2_textAt_j7 s i_1 value1 false
theorem eqb (c q : UInt8) : decide ((c.toNat : Int) = (q.toNat : Int)) = decide (c = q) := by
  have := byte_is c q.toNat q.toNat_lt
  rwa [UInt8.ofNat_toNat] at this
theorem rtext_l0 (s : List UInt8) (q : UInt8) (hq : s[0]? = some q) (hq10 : q ≠ 10) (hl : s.length < 140737488355328) : ∀ (N i : Nat) (b : List UInt8), s.length - i < N → i ≤ s.length → b.length ≤ i →
    clerestoryref2_textAt_l0 s (rtextK s) N b (i : Int) = some (textT s b i (textS q (s.drop i)))
  | 0, i, b, hN, hi, hb => by omega
  | N + 1, i, b, hN, hi, hb => by
    rw [clerestoryref2_textAt_l0]
    have a0 : at? s 0 = some q := by
      have := at_nat s 0
      rw [hq] at this
      exact this
    unfold clerestoryref2_textAt_j5 clerestoryref2_textAt_j6
    by_cases h : i < s.length
    · have e1 := List.drop_eq_getElem_cons h
      have hK : ∀ v : List UInt8, rtextK s v (i : Int) = if s[i] = q then some ⟨5, s.take (i + 1), v, 0⟩ else some ⟨6, s.take i, [], 0⟩ := by
        intro v
        unfold rtextK clerestoryref2_textAt_j7
        rw [if_pos (by simp only [decide_eq_true_eq]; omega), at_some h, Option.bind_some, a0, Option.bind_some, eqb, wi_id (by omega) (by omega), show (i : Int) + 1 = ((i + 1 : Nat) : Int) by omega, sub_take (by omega), Option.bind_some, sub_take hi, Option.bind_some]
        by_cases c1 : s[i] = q
        · rw [if_pos (by simpa using c1), if_pos c1]
        · rw [if_neg (by simpa using c1), if_neg c1]
      rw [if_pos (by simp only [decide_eq_true_eq]; omega), at_some h, a0]
      simp only [Option.bind_some]
      rw [eqb, show decide ((s[i].toNat : Int) = 10) = decide (s[i] = 10) from byte_is _ 10 (by omega), show decide ((s[i].toNat : Int) = 92) = decide (s[i] = 92) from byte_is _ 92 (by omega),
        wi_id (n := (i : Int) + 1) (by omega) (by omega), show (i : Int) + 1 = ((i + 1 : Nat) : Int) by omega, wi_id (n := ((i + 1 : Nat) : Int) + 1) (by omega) (by omega), show ((i + 1 : Nat) : Int) + 1 = ((i + 1 + 1 : Nat) : Int) by omega, sub_one h, Option.bind_some, catq (by simp; omega), Option.bind_some, hK,
        rtext_l0 s q hq hq10 hl N (i + 1) (b ++ [s[i]]) (by omega) (by omega) (by simp; omega), e1]
      by_cases h2 : i + 1 < s.length
      · have e2 := List.drop_eq_getElem_cons h2
        rw [e2, textS, sub_one h2, Option.bind_some, catq (by simp; omega), Option.bind_some, rtext_l0 s q hq hq10 hl N (i + 1 + 1) (b ++ [s[i + 1]]) (by omega) (by omega) (by simp; omega)]
        by_cases c2 : s[i] = 10
        · have c1 : ¬ s[i] = q := fun h => hq10 (by rw [← h, c2])
          rw [if_neg (by simp [c2]), if_neg (by simp), if_neg c1, if_neg c1, if_pos c2]
          simp [textT]
        · rw [if_pos (by simp [c2])]
          by_cases c1 : s[i] = q
          · rw [if_neg (by simp [c1]), if_pos c1, if_pos c1]; simp [textT]
          · rw [if_pos (by simp [c1]), if_neg c1, if_neg c2]
            by_cases c3 : s[i] = 92
            · rw [if_pos (by simp [c3]; omega), if_pos c3]
              simp only [textT, List.append_assoc, List.cons_append, List.nil_append]
              generalize textS q (s.drop (i + 1 + 1)) = x
              rw [show i + 1 + 1 + x.2.1 + 1 = i + (x.2.1 + 2) + 1 by omega, show i + 1 + 1 + x.2.1 = i + (x.2.1 + 2) by omega]
            · rw [if_neg (by simp [c3]), if_neg c3]
              simp only [textT, List.append_assoc, List.cons_append, List.nil_append]
              generalize textS q (s[i + 1] :: s.drop (i + 1 + 1)) = x
              rw [show i + 1 + x.2.1 + 1 = i + (x.2.1 + 1) + 1 by omega, show i + 1 + x.2.1 = i + (x.2.1 + 1) by omega]
      · have e2 : s.drop (i + 1) = [] := List.drop_eq_nil_of_le (by omega)
        rw [e2, show textS q [] = ([], 0, 2) by rw [textS], show textS q [s[i]] = if s[i] = q then ([], 0, 0) else if s[i] = 10 then ([], 0, 1) else ([s[i]], 1, 2) by rw [textS]]
        by_cases c2 : s[i] = 10
        · have c1 : ¬ s[i] = q := fun h => hq10 (by rw [← h, c2])
          rw [if_neg (by simp [c2]), if_neg (by simp), if_neg c1, if_neg c1, if_pos c2]
          simp [textT]
        · rw [if_pos (by simp [c2])]
          by_cases c1 : s[i] = q
          · rw [if_neg (by simp [c1]), if_pos c1, if_pos c1]; simp [textT]
          · rw [if_pos (by simp [c1]), if_neg c1, if_neg c2, if_neg (by simp; intros; omega)]
            simp [textT]
    · rw [if_neg (by simp only [decide_eq_true_eq]; omega), if_neg (by simp), List.drop_eq_nil_of_le (by omega), show textS q [] = ([], 0, 2) by rw [textS]]
      have : i = s.length := by omega
      subst this
      unfold rtextK clerestoryref2_textAt_j7
      rw [if_neg (by simp), if_neg (by simp), sub_take (Nat.le_refl _), Option.bind_some, List.take_length]
      simp [textT]
theorem textAt_eq {s : List UInt8} {q : UInt8} (hq : s[0]? = some q) (hq10 : q ≠ 10) (hl : s.length < 140737488355328) : clerestoryref2_textAt s = some (textT s [] 1 (textS q (s.drop 1))) := by
  have hne : 1 ≤ s.length := by
    cases s with
    | nil => cases hq
    | cons => simp
  unfold clerestoryref2_textAt
  exact lim_of (s.length + 1) fun k hk => rtext_l0 s q hq hq10 hl k 1 [] (by omega) hne (by simp)
theorem rblank_l0 (s : List UInt8) (hl : s.length < 140737488355328) (K : Int → Option TSToken) : ∀ (N i : Nat), s.length - i < N → i ≤ s.length →
    clerestoryref2_TokenAt_l0 s K N (i : Int) = K ((i + ((s.drop i).takeWhile isBlank).length : Nat) : Int)
  | 0, i, hN, hi => by omega
  | N + 1, i, hN, hi => by
    rw [clerestoryref2_TokenAt_l0]
    unfold clerestoryref2_TokenAt_j3
    by_cases h : i < s.length
    · rw [if_pos (by simp only [decide_eq_true_eq]; omega), at_some h, Option.bind_some, rblank_eq, List.drop_eq_getElem_cons h, List.takeWhile_cons, wi_id (by omega) (by omega), show (i : Int) + 1 = ((i + 1 : Nat) : Int) by omega, rblank_l0 s hl K N (i + 1) (by omega) (by omega)]
      cases isBlank s[i] with
      | true => rw [if_pos rfl, if_pos rfl, List.length_cons]; congr 2; omega
      | false => rw [if_neg (by simp), if_neg (by simp)]; rfl
    · rw [if_neg (by simp only [decide_eq_true_eq]; omega), if_neg (by simp), List.drop_eq_nil_of_le (by omega)]
      rfl
theorem rj7 (c : UInt8) (r : List UInt8) : (if (((decide ((c.toNat : Int) = 40)) || (decide ((c.toNat : Int) = 91))) || (decide ((c.toNat : Int) = 123))) = true then clerestoryref2_TokenAt_j7 c (c :: r) 10 else clerestoryref2_TokenAt_j7 c (c :: r) 12) = some ⟨oneS c, [c], [], 0⟩ := by
  have h1 : sub? (c :: r) 0 1 = some [c] := sub_take (b := 1) (by simp)
  unfold clerestoryref2_TokenAt_j7 clerestoryref2_TokenAt_j8 clerestoryref2_TokenAt_j9
  simp only [h1, Option.bind_some]
  rw [show decide ((c.toNat : Int) = 40) = decide (c = 40) from byte_is c 40 (by omega), show decide ((c.toNat : Int) = 91) = decide (c = 91) from byte_is c 91 (by omega), show decide ((c.toNat : Int) = 123) = decide (c = 123) from byte_is c 123 (by omega),
    show decide ((c.toNat : Int) = 41) = decide (c = 41) from byte_is c 41 (by omega), show decide ((c.toNat : Int) = 93) = decide (c = 93) from byte_is c 93 (by omega), show decide ((c.toNat : Int) = 125) = decide (c = 125) from byte_is c 125 (by omega), show decide ((c.toNat : Int) = 92) = decide (c = 92) from byte_is c 92 (by omega)]
  unfold oneS
  by_cases c1 : c = 40
  · subst c1; rfl
  by_cases c2 : c = 91
  · subst c2; rfl
  by_cases c3 : c = 123
  · subst c3; rfl
  by_cases c4 : c = 41
  · subst c4; rfl
  by_cases c5 : c = 93
  · subst c5; rfl
  by_cases c6 : c = 125
  · subst c6; rfl
  by_cases c7 : c = 92
  · subst c7; rfl
  simp [c1, c2, c3, c4, c5, c6, c7]
theorem num_not (c : UInt8) (r : List UInt8) (h : c = 35 ∨ c = 64) : ¬ 0 < (numS (c :: r)).2 := by
  have hf : fromN (c :: r) = 0 := by rcases h with rfl | rfl <;> rfl
  have hd : isD c = false := by rcases h with rfl | rfl <;> rfl
  have h46 : ¬ c = 46 := by rcases h with rfl | rfl <;> decide
  have ht : (c :: r).takeWhile isD = [] := by rw [List.takeWhile_cons, hd]; rfl
  have e : numS (c :: r) = (0, 0) := by
    unfold numS
    rw [hf, List.drop_zero, ht]
    have : fracN ((c :: r).drop ([] : List UInt8).length) = [] := by
      show (if c = 46 then _ else _) = _
      rw [if_neg h46]
    simp only [this]
    rfl
  rw [e]
  simp
theorem rnameT {s : List UInt8} (hl : s.length < 140737488355328) : ((clerestoryref2_said s 0).bind fun r_10 =>
      (clerestoryref2_at s r_10.2).bind fun r_11 =>
      if decide (r_11 = 40) then
        (sub? s 0 (wi (r_10.2 + 1))).bind fun r_12 =>
        some (⟨2, r_12, r_10.1, 0⟩ : TSToken)
      else
        (sub? s 0 r_10.2).bind fun r_13 =>
        some (⟨1, r_13, r_10.1, 0⟩ : TSToken)) = some (nameT s) := by
  have h1 := said_eq (s := s) (i := 0) hl (Nat.zero_le _)
  have h2 := nameS_le _ s rfl
  rw [show ((0 : Nat) : Int) = 0 from rfl, List.drop_zero, Nat.zero_add] at h1
  rw [h1, Option.bind_some, rat_eq, Option.bind_some]
  show _ = some (if (s.drop (nameS s).2).head? = some 40 then (⟨2, s.take ((nameS s).2 + 1), (nameS s).1, 0⟩ : TSToken) else ⟨1, s.take (nameS s).2, (nameS s).1, 0⟩)
  have hh : (s.drop (nameS s).2).head? = s[(nameS s).2]? := by rw [List.head?_drop]
  rw [hh]
  by_cases h3 : (nameS s).2 < s.length
  · have g : s.getD (nameS s).2 0 = s[(nameS s).2] := by rw [List.getD_eq_getElem?_getD, List.getElem?_eq_getElem h3]; rfl
    rw [g, show decide ((s[(nameS s).2].toNat : Int) = 40) = decide (s[(nameS s).2] = 40) from byte_is _ 40 (by omega), List.getElem?_eq_getElem h3]
    by_cases c : s[(nameS s).2] = 40
    · rw [if_pos (by simpa using c), wi_id (by omega) (by omega), show ((nameS s).2 : Int) + 1 = (((nameS s).2 + 1 : Nat) : Int) by omega, sub_take (by omega), Option.bind_some]
      simp [c]
    · rw [if_neg (by simpa using c), sub_take h2, Option.bind_some]
      simp [c]
  · have g : s.getD (nameS s).2 0 = 0 := by rw [List.getD_eq_getElem?_getD, List.getElem?_eq_none (by omega)]; rfl
    rw [g, if_neg (by decide), sub_take h2, Option.bind_some, List.getElem?_eq_none (by omega)]
    simp
theorem TokenAt_eq {s : List UInt8} (hs : s ≠ []) (hl : s.length < 140737488355328) : clerestoryref2_TokenAt s = some (firstS s) := by
  match s, hs with
  | c :: r, hs =>
    have h0 : at? (c :: r) 0 = some c := rfl
    have nf : ¬ ((false : Bool) = true) := by simp
    unfold clerestoryref2_TokenAt
    rw [h0, Option.bind_some, rblank_eq]
    cases hb : isBlank c with
    | true =>
      rw [if_pos rfl]
      refine lim_of ((c :: r).length + 1) fun k hk => ?_
      rw [show (0 : Int) = ((0 : Nat) : Int) from rfl, rblank_l0 (c :: r) hl _ k 0 (by omega) (by omega), List.drop_zero, Nat.zero_add, show ((0 : Nat) : Int) = 0 from rfl]
      have hle := dropWhile_take isBlank (c :: r)
      rw [sub_take (by omega), Option.bind_some, take_takeWhile]
      unfold firstS
      rw [if_pos (by rw [List.takeWhile_cons, hb]; simp)]
    | false =>
      have htk : (c :: r).takeWhile isBlank = [] := by rw [List.takeWhile_cons, hb]; rfl
      rw [if_neg (by simp)]
      have main : ¬ (c :: r).take 2 = [47, 42] → clerestoryref2_TokenAt_j4 (c :: r) c false = some (firstS (c :: r)) := by
        intro hp
        unfold firstS
        rw [if_neg (by simp [htk]), if_neg hp]
        show _ = some (tokS c r)
        unfold clerestoryref2_TokenAt_j4 tokS
        rw [if_neg (by simp), show decide ((c.toNat : Int) = 39) = decide (c = 39) from byte_is c 39 (by omega), show decide ((c.toNat : Int) = 34) = decide (c = 34) from byte_is c 34 (by omega), show decide ((c.toNat : Int) = 35) = decide (c = 35) from byte_is c 35 (by omega)]
        by_cases cq : c = 39 ∨ c = 34
        · rw [if_pos (by simpa using cq), if_pos cq, textAt_eq (q := c) rfl (by rcases cq with rfl | rfl <;> decide) hl, Option.bind_some]
          rfl
        · rw [if_neg (by simpa using cq), if_neg cq, NumberAt_eq (by omega), Option.bind_some]
          have hn := numS_le (c :: r)
          by_cases hnum : 0 < (numS (c :: r)).2
          · have n35 : ¬ (c = 35 ∧ hashB r = true) := fun h => num_not c r (.inl h.1) hnum
            have n64 : ¬ (c = 64 ∧ beginsS r = true) := fun h => num_not c r (.inr h.1) hnum
            have e : ((numS (c :: r)).2.toNat : Int) = (numS (c :: r)).2 := by omega
            rw [if_pos (by simpa using hnum), if_neg n35, if_neg n64, if_pos hnum, ← e, numAt_eq hl (by omega), Option.bind_some]
            rfl
          · rw [if_neg (by simpa using hnum)]
            have j6 : ∀ v, clerestoryref2_TokenAt_j6 (c :: r) c v = some (if v = true then namedT 3 (c :: r) else if beginsS (c :: r) then nameT (c :: r) else ⟨oneS c, [c], [], 0⟩) := by
              intro v
              have h1 := said_eq (s := c :: r) (i := 1) hl (by simp)
              have h2 := nameS_le _ r rfl
              have hb0 := rbegins_eq (c :: r) 0 (by omega)
              rw [show ((1 : Nat) : Int) = 1 from rfl, show (c :: r).drop 1 = r from rfl] at h1
              rw [show ((0 : Nat) : Int) = 0 from rfl, List.drop_zero] at hb0
              unfold clerestoryref2_TokenAt_j6
              cases v with
              | true =>
                rw [if_pos rfl, if_pos rfl, h1, Option.bind_some, sub_take (by simp only [List.length_cons]; omega), Option.bind_some]
                rfl
              | false =>
                rw [if_neg nf, if_neg nf, hb0, Option.bind_some]
                cases hb : beginsS (c :: r) with
                | true => rw [if_pos rfl, if_pos rfl]; exact rnameT hl
                | false => rw [if_neg nf, if_neg nf]; exact rj7 c r
            have j5 : ∀ v, clerestoryref2_TokenAt_j5 (c :: r) c v = some (if v = true then namedT 4 (c :: r) else if c = 64 ∧ beginsS r = true then namedT 3 (c :: r) else if beginsS (c :: r) then nameT (c :: r) else ⟨oneS c, [c], [], 0⟩) := by
              intro v
              have h1 := said_eq (s := c :: r) (i := 1) hl (by simp)
              have h2 := nameS_le _ r rfl
              have hb1 := rbegins_eq (c :: r) 1 (by omega)
              rw [show ((1 : Nat) : Int) = 1 from rfl, show (c :: r).drop 1 = r from rfl] at h1 hb1
              unfold clerestoryref2_TokenAt_j5
              cases v with
              | true =>
                rw [if_pos rfl, if_pos rfl, h1, Option.bind_some, sub_take (by simp only [List.length_cons]; omega), Option.bind_some]
                rfl
              | false =>
                rw [if_neg nf, if_neg nf, show decide ((c.toNat : Int) = 64) = decide (c = 64) from byte_is c 64 (by omega)]
                by_cases c64 : c = 64
                · rw [if_pos (by simpa using c64), hb1, Option.bind_some, j6]
                  simp [c64]
                · have n64 : ¬ (c = 64 ∧ beginsS r = true) := fun h => c64 h.1
                  rw [if_neg (by simpa using c64), j6, if_neg nf, if_neg n64]
            by_cases c35 : c = 35
            · have hsg := rat_eq (c :: r) 1
              have hes := rescape_eq (c :: r) 1 (by omega)
              rw [show ((1 : Nat) : Int) = 1 from rfl] at hsg hes
              rw [if_pos (by simpa using c35), hsg, Option.bind_some, rnamed_eq, hes, Option.bind_some, j5, j5]
              have key : ∀ b : Bool, (isSign ((c :: r).getD 1 0) && decide (1 < ((c :: r).length : Int))) = b → hashB r = (b || escS r) := by
                intro b hb
                subst hb
                cases r with
                | nil => rfl
                | cons d r2 =>
                  have : decide (1 < ((c :: d :: r2).length : Int)) = true := by simp; omega
                  rw [this]
                  show (isSign d || escS (d :: r2)) = ((isSign d && true) || escS (d :: r2))
                  rw [Bool.and_true]
              cases hcc : (isSign ((c :: r).getD 1 0) && decide (1 < ((c :: r).length : Int))) with
              | true =>
                have := key true hcc
                rw [if_pos rfl, if_pos rfl, if_pos ⟨c35, by rw [this]; rfl⟩]
              | false =>
                have := key false hcc
                rw [Bool.false_or] at this
                rw [if_neg nf, show (c :: r).drop 1 = r from rfl]
                cases he : escS r with
                | true => rw [if_pos rfl, if_pos ⟨c35, by rw [this, he]⟩]
                | false =>
                  have n35 : ¬ (c = 35 ∧ hashB r = true) := fun h => by have := h.2; rw [‹hashB r = escS r›, he] at this; cases this
                  rw [if_neg nf, if_neg n35, if_neg hnum]
            · have n35 : ¬ (c = 35 ∧ hashB r = true) := fun h => c35 h.1
              rw [if_neg (by simpa using c35), j5, if_neg nf, if_neg n35, if_neg hnum]
      rw [show decide ((c.toNat : Int) = 47) = decide (c = 47) from byte_is c 47 (by omega)]
      by_cases c47 : c = 47
      · have h1 := rat_eq (c :: r) 1
        rw [show ((1 : Nat) : Int) = 1 from rfl] at h1
        rw [if_pos (by simpa using c47), h1, Option.bind_some]
        cases r with
        | nil => exact main (by simp)
        | cons d r2 =>
          rw [show (c :: d :: r2).getD 1 0 = d from rfl, show decide ((d.toNat : Int) = 42) = decide (d = 42) from byte_is d 42 (by omega)]
          by_cases d42 : d = 42
          · rw [show decide (d = 42) = true by simpa using d42]
            unfold clerestoryref2_TokenAt_j4 firstS
            rw [if_pos rfl, noteAt_eq hl (by simp), Option.bind_some, if_neg (by simp [htk]), if_pos (by simp [c47, d42])]
          · rw [show decide (d = 42) = false by simpa using d42]
            exact main (by simp [d42])
      · rw [if_neg (by simpa using c47)]
        exact main (by cases r <;> simp [c47])
theorem tok_l0 : ∀ (N : Nat) (s : List UInt8) (out : List TSToken), s.length < N → s.length < 4294967281 → out.length + s.length < 4294967281 →
    clerestoryref2_Tokens_l0 (fun out => some out) N s out = some (out ++ cutS s)
  | 0, s, out, hN, hl, ho => by omega
  | N + 1, s, out, hN, hl, ho => by
    rw [clerestoryref2_Tokens_l0]
    by_cases hs : s = []
    · subst hs
      rw [if_neg (by simp)]
      simp [cutS, cutF]
    · obtain ⟨h1, h2⟩ := firstS_raw hs
      have hp := List.length_pos_iff.2 hs
      rw [if_pos (by simp only [decide_eq_true_eq]; omega), TokenAt_eq hs (by omega), Option.bind_some, appq (by simp; omega), Option.bind_some, sub_drop h2, Option.bind_some, tok_l0 N _ _ (by rw [List.length_drop]; omega) (by rw [List.length_drop]; omega) (by rw [List.length_append, List.length_drop]; simp; omega)]
      congr 1
      rw [List.append_assoc]
      congr 1
      unfold cutS
      have hlen : s.length = (s.length - 1) + 1 := by omega
      rw [hlen, cutF, if_neg hs, cutF_more (s.length - 1) (s.drop (firstS s).Raw.length).length _ (by rw [List.length_drop]; omega) (Nat.le_refl _)]
      rfl
theorem Tokens_eq {s : List UInt8} (hl : s.length < 4294967281) : clerestoryref2_Tokens s = some (cutS s) := by
  unfold clerestoryref2_Tokens
  exact lim_of (s.length + 1) fun k hk => by rw [tok_l0 k s [] (by omega) hl (by simpa using hl)]; rfl
theorem cutF_len : ∀ (N : Nat) (s : List UInt8), (cutF N s).length ≤ s.length
  | 0, s => by simp [cutF]
  | N + 1, s => by
    rw [cutF]
    by_cases hs : s = []
    · simp [hs]
    · have := firstS_raw hs
      have h2 := cutF_len N (s.drop (firstS s).Raw.length)
      rw [List.length_drop] at h2
      rw [if_neg hs, List.length_cons]
      omega
end Go.Proofs.YtdmmjgjmfpalhaaDoorBv
