/- A text's tokens, as the document cuts them: the same plain functions. No program is in sight. -/
import Derived.Test.YtdmmjgjmfpalhaaDoorCutTDimReads
import Derived.Test.YtdmmjgjmfpalhaaDoorRNumDimReads
namespace Go.Proofs.YtdmmjgjmfpalhaaDoorBv
open Go
set_option linter.unusedSimpArgs false
set_option linter.unusedVariables false
theorem rletter_eq (c : UInt8) : clerestoryref2_letter (c.toNat : Int) = isStart c := by
  have := u8_all (p := fun c => clerestoryref2_letter (c.toNat : Int) == isStart c) (by decide +kernel) c
  simpa using this
theorem rnamed_eq (c : UInt8) : clerestoryref2_named (c.toNat : Int) = isSign c := by
  unfold clerestoryref2_named isSign
  rw [rletter_eq, rdigit_eq]
  congr 1
  exact byte_is c 45 (by omega)
theorem rblank_eq (c : UInt8) : clerestoryref2_Blank (c.toNat : Int) = isBlank c := by
  have := u8_all (p := fun c => clerestoryref2_Blank (c.toNat : Int) == isBlank c) (by decide +kernel) c
  simpa using this
theorem drop_get {s : List UInt8} {i k : Nat} : (s.drop i)[k]? = s[i + k]? := by rw [List.getElem?_drop]
theorem rescape_eq (s : List UInt8) (i : Nat) (hi : i ≤ 9223372036854775806) : clerestoryref2_escape s (i : Int) = some (escS (s.drop i)) := by
  unfold clerestoryref2_escape clerestoryref2_escape_j1
  rw [rat_eq, Option.bind_some, wi_id (by omega) (by omega), show (i : Int) + 1 = ((i + 1 : Nat) : Int) by omega]
  by_cases h : i < s.length
  · have e1 := List.drop_eq_getElem_cons h
    have g : s.getD i 0 = s[i] := by rw [List.getD_eq_getElem?_getD, List.getElem?_eq_getElem h]; rfl
    rw [g, show decide ((s[i].toNat : Int) = 92) = decide (s[i] = 92) from byte_is _ 92 (by omega), e1]
    by_cases h2 : i + 1 < s.length
    · have e2 := List.drop_eq_getElem_cons h2
      rw [at_some h2, Option.bind_some, e2, show decide ((s[i + 1].toNat : Int) = 10) = decide (s[i + 1] = 10) from byte_is _ 10 (by omega)]
      unfold escS
      by_cases hc : s[i] = 92
      · rw [if_pos (by simp [hc]; omega)]; simp [hc]
      · rw [if_neg (by simp [hc])]; simp [hc]
    · have e2 : s.drop (i + 1) = [] := List.drop_eq_nil_of_le (by omega)
      rw [if_neg (by simp; intros; omega), e2]
      rfl
  · have g : s.getD i 0 = 0 := by rw [List.getD_eq_getElem?_getD, List.getElem?_eq_none (by omega)]; rfl
    rw [g, if_neg (by simp), List.drop_eq_nil_of_le (by omega)]
    rfl
theorem rbegins_eq (s : List UInt8) (i : Nat) (hi : i ≤ 9223372036854775805) : clerestoryref2_begins s (i : Int) = some (beginsS (s.drop i)) := by
  unfold clerestoryref2_begins clerestoryref2_begins_j1 clerestoryref2_begins_j2
  rw [rat_eq, Option.bind_some, wi_id (by omega) (by omega), show (i : Int) + 1 = ((i + 1 : Nat) : Int) by omega, rescape_eq s i (by omega), rescape_eq s (i + 1) (by omega), Option.bind_some, Option.bind_some]
  by_cases h : i < s.length
  · have e1 := List.drop_eq_getElem_cons h
    have g : s.getD i 0 = s[i] := by rw [List.getD_eq_getElem?_getD, List.getElem?_eq_getElem h]; rfl
    rw [g, show decide ((s[i].toNat : Int) = 45) = decide (s[i] = 45) from byte_is _ 45 (by omega), e1, at_some h, Option.bind_some, rletter_eq]
    by_cases h2 : i + 1 < s.length
    · have e2 := List.drop_eq_getElem_cons h2
      rw [at_some h2, Option.bind_some, Option.bind_some, rletter_eq, e2, show decide ((s[i + 1].toNat : Int) = 45) = decide (s[i + 1] = 45) from byte_is _ 45 (by omega)]
      rw [show beginsS (s[i] :: s[i + 1] :: s.drop (i + 1 + 1)) = if s[i] = 45 then decide (s[i + 1] = 45) || isStart s[i + 1] || escS (s[i + 1] :: s.drop (i + 1 + 1)) else isStart s[i] || escS (s[i] :: s[i + 1] :: s.drop (i + 1 + 1)) from rfl]
      by_cases hc : s[i] = 45
      · rw [if_pos (by simpa using hc), if_pos (by simp only [decide_eq_true_eq]; omega), if_pos hc]
        by_cases hd : s[i + 1] = 45
        · rw [if_pos (by simpa using hd)]; simp [hd]
        · rw [if_neg (by simpa using hd)]
          cases isStart s[i + 1] <;> simp [hd]
      · rw [if_neg (by simpa using hc), if_pos (by simp only [decide_eq_true_eq]; omega), if_neg hc]
        cases isStart s[i] <;> simp
    · have e2 : s.drop (i + 1) = [] := List.drop_eq_nil_of_le (by omega)
      rw [e2]
      show _ = some (isStart s[i])
      by_cases hc : s[i] = 45
      · rw [if_pos (by simpa using hc), if_neg (by simp only [decide_eq_true_eq]; omega)]
        rw [hc]; rfl
      · rw [if_neg (by simpa using hc), if_pos (by simp only [decide_eq_true_eq]; omega)]
        cases isStart s[i] <;> rfl
  · have g : s.getD i 0 = 0 := by rw [List.getD_eq_getElem?_getD, List.getElem?_eq_none (by omega)]; rfl
    rw [g, if_neg (by simp), if_neg (by simp only [decide_eq_true_eq]; omega), List.drop_eq_nil_of_le (by omega)]
    rfl
theorem sub_one {s : List UInt8} {i : Nat} (h : i < s.length) : sub? s (i : Int) ((i + 1 : Nat) : Int) = some [s[i]] := by
  rw [sub_nat (by omega) (by omega), List.drop_take, show i + 1 - i = 1 by omega, List.drop_eq_getElem_cons h]
  rfl
theorem said_l0 (s : List UInt8) (hl : s.length < 140737488355328) : ∀ (N i : Nat) (b : List UInt8), s.length - i < N → i ≤ s.length → b.length ≤ i →
    clerestoryref2_said_l0 s (fun i b => some (b, i)) N (i : Int) b = some (b ++ (nameS (s.drop i)).1, ((i + (nameS (s.drop i)).2 : Nat) : Int))
  | 0, i, b, hN, hi, hb => by omega
  | N + 1, i, b, hN, hi, hb => by
    rw [clerestoryref2_said_l0]
    unfold clerestoryref2_said_j5 clerestoryref2_said_j6
    by_cases h : i < s.length
    · have e1 := List.drop_eq_getElem_cons h
      rw [if_pos (by simp only [decide_eq_true_eq]; omega), at_some h, Option.bind_some, rnamed_eq, rescape_eq s i (by omega), Option.bind_some, Option.bind_some, wi_id (n := (i : Int) + 1) (by omega) (by omega), show (i : Int) + 1 = ((i + 1 : Nat) : Int) by omega, wi_id (n := ((i + 1 : Nat) : Int) + 1) (by omega) (by omega),
        show ((i + 1 : Nat) : Int) + 1 = ((i + 1 + 1 : Nat) : Int) by omega, sub_one h, Option.bind_some, catq (by simp; omega), Option.bind_some, show decide ((s[i].toNat : Int) = 92) = decide (s[i] = 92) from byte_is _ 92 (by omega), e1,
        said_l0 s hl N (i + 1) (b ++ [s[i]]) (by omega) (by omega) (by simp; omega)]
      by_cases h2 : i + 1 < s.length
      · have e2 := List.drop_eq_getElem_cons h2
        rw [e2, sub_one h2, Option.bind_some, catq (by simp; omega), Option.bind_some, said_l0 s hl N (i + 1 + 1) (b ++ [s[i + 1]]) (by omega) (by omega) (by simp; omega)]
        rw [show nameS (s[i] :: s[i + 1] :: s.drop (i + 1 + 1)) = if s[i] = 92 ∧ s[i + 1] ≠ 10 then addN [s[i + 1]] 2 (nameS (s.drop (i + 1 + 1))) else if isSign s[i] then addN [s[i]] 1 (nameS (s[i + 1] :: s.drop (i + 1 + 1))) else ([], 0) by rw [nameS]]
        have n92 : ∀ c : UInt8, c = 92 → isSign c = false := by rintro c rfl; decide
        by_cases hc : s[i] = 92
        · rw [n92 _ hc]
          unfold escS
          by_cases hd : s[i + 1] = 10
          · simp [hc, hd]
          · simp [hc, hd, addN]; omega
        · have : escS (s[i] :: s[i + 1] :: s.drop (i + 1 + 1)) = false := by simp [escS, hc]
          rw [this]
          cases isSign s[i] with
          | true => simp [hc, addN]; omega
          | false => simp [hc]
      · have e2 : s.drop (i + 1) = [] := List.drop_eq_nil_of_le (by omega)
        rw [e2, show nameS [] = ([], 0) by rw [nameS], show nameS [s[i]] = if isSign s[i] then ([s[i]], 1) else ([], 0) by rw [nameS], show escS [s[i]] = false from rfl]
        have n92 : ∀ c : UInt8, isSign c = true → c ≠ 92 := by rintro c h rfl; revert h; decide
        cases hs : isSign s[i] with
        | true => simp [n92 _ hs]
        | false => simp
    · rw [if_neg (by simp only [decide_eq_true_eq]; omega), if_neg (by simp), List.drop_eq_nil_of_le (by omega), show nameS [] = ([], 0) by rw [nameS]]
      simp
theorem said_eq {s : List UInt8} {i : Nat} (hl : s.length < 140737488355328) (hi : i ≤ s.length) : clerestoryref2_said s (i : Int) = some ((nameS (s.drop i)).1, ((i + (nameS (s.drop i)).2 : Nat) : Int)) := by
  unfold clerestoryref2_said
  refine lim_of (s.length + 1) fun k hk => ?_
  have := said_l0 s hl k i [] (by omega) hi (by simp)
  simpa using this
theorem rlower_l0 (s : List UInt8) (hl : s.length < 140737488355328) : ∀ (N i : Nat), s.length - i < N → i ≤ s.length →
    clerestoryref2_Lower_l0 (fun b => some (byts b)) N (ints ((s.take i).map lowB ++ s.drop i)) (i : Int) = some (s.map lowB)
  | 0, i, hN, hi => by omega
  | N + 1, i, hN, hi => by
    rw [clerestoryref2_Lower_l0]
    have hlen : ((s.take i).map lowB).length = i := by simp; omega
    have hall : (ints ((s.take i).map lowB ++ s.drop i)).length = s.length := by rw [ints_length, List.length_append, hlen, List.length_drop]; omega
    by_cases h : i < s.length
    · have hg : ((s.take i).map lowB ++ s.drop i)[i]? = some s[i] := by
        rw [List.getElem?_append_right (by omega), hlen]
        simp [h]
      have ih := rlower_l0 s hl N (i + 1) (by omega) (by omega)
      have eset : ((s.take i).map lowB ++ s.drop i).set i (lowB s[i]) = (s.take (i + 1)).map lowB ++ s.drop (i + 1) := by
        rw [List.set_append_right _ _ (by omega), hlen, List.drop_eq_getElem_cons h, Nat.sub_self, List.set_cons_zero, List.take_add_one, List.getElem?_eq_getElem h]
        simp only [Option.toList_some, List.map_append, List.map_cons, List.map_nil, List.append_assoc, List.cons_append, List.nil_append]
      have hint : ∀ c : UInt8, (ints ((s.take i).map lowB ++ s.drop i)).set i (c.toNat : Int) = ints (((s.take i).map lowB ++ s.drop i).set i c) := by
        intro c
        unfold ints
        rw [List.map_set]
      have ha : at? (ints ((s.take i).map lowB ++ s.drop i)) (i : Int) = some (s[i].toNat : Int) := by rw [at_nat, ints_get, hg]; rfl
      rw [if_pos (by simp only [decide_eq_true_eq]; omega), ha, Option.bind_some, Option.bind_some]
      unfold clerestoryref2_Lower_j12 clerestoryref2_Lower_j11
      rw [ha, Option.bind_some, Option.bind_some, wi_id (by omega) (by omega), show (i : Int) + 1 = ((i + 1 : Nat) : Int) by omega]
      by_cases hc : 65 ≤ s[i].toNat ∧ s[i].toNat ≤ 90
      · have e : lowB s[i] = s[i] + 32 := by unfold lowB; rw [if_pos hc]
        have e2 : wr .u8 ((s[i].toNat : Int) + 32) = ((lowB s[i]).toNat : Int) := by
          rw [e, wr_u8, UInt8.toNat_add]
          have : (32 : UInt8).toNat = 32 := rfl
          omega
        rw [if_pos (by simp; omega), if_pos (by simp; omega), e2, show ((i : Int)).toNat = i from rfl, hint, eset]
        exact ih
      · have e : lowB s[i] = s[i] := by unfold lowB; rw [if_neg hc]
        have eq : (s.take i).map lowB ++ s.drop i = (s.take (i + 1)).map lowB ++ s.drop (i + 1) := by
          rw [← eset, e]
          exact (set_self hg).symm
        rw [eq]
        by_cases c1 : 65 ≤ s[i].toNat
        · rw [if_pos (by simp; omega), if_neg (by simp; omega)]; exact ih
        · rw [if_neg (by simp; omega), if_neg (by simp)]; exact ih
    · have : i = s.length := by omega
      subst this
      rw [if_neg (by rw [hall]; simp)]
      simp [byts_ints]
theorem rlower_eq {s : List UInt8} (hl : s.length < 140737488355328) : clerestoryref2_Lower s = some (s.map lowB) := by
  unfold clerestoryref2_Lower
  refine lim_of (s.length + 1) fun k hk => ?_
  have := rlower_l0 s hl k 0 (by omega) (by omega)
  simpa using this
theorem numAt_eq {s : List UInt8} {num : Int} {n : Nat} (hl : s.length < 140737488355328) (hn : n ≤ s.length) : clerestoryref2_numAt s num (n : Int) = some (numberS s num n) := by
  unfold clerestoryref2_numAt clerestoryref2_numAt_j1 numberS
  rw [sub_take hn, Option.bind_some, rat_eq, Option.bind_some, rbegins_eq s n (by omega), Option.bind_some, said_eq hl hn, Option.bind_some]
  have gd : ∀ c r, s.drop n = c :: r → s.getD n 0 = c := by
    intro c r h
    have : (s.drop n)[0]? = some c := by rw [h]; rfl
    rw [drop_get, Nat.add_zero] at this
    rw [List.getD_eq_getElem?_getD, this]; rfl
  cases hd : s.drop n with
  | nil =>
    have : s.length ≤ n := by simpa using hd
    have g : s.getD n 0 = 0 := by rw [List.getD_eq_getElem?_getD, List.getElem?_eq_none this]; rfl
    rw [g, if_neg (by decide), if_neg (by simp [beginsS])]
  | cons c r =>
    have hlr := congrArg List.length hd
    simp only [List.length_drop, List.length_cons] at hlr
    rw [gd c r hd, show decide ((c.toNat : Int) = 37) = decide (c = 37) from byte_is _ 37 (by omega)]
    by_cases hc : c = 37
    · rw [if_pos (by simpa using hc), wi_id (by omega) (by omega), show (n : Int) + 1 = ((n + 1 : Nat) : Int) by omega, sub_take (by omega), Option.bind_some]
      simp only [if_pos hc]
    · rw [if_neg (by simpa using hc)]
      simp only [if_neg hc]
      cases hb : beginsS (c :: r) with
      | false => rfl
      | true =>
        have h1 := nameS_le _ (c :: r) rfl
        have h2 := nameS_len _ (c :: r) rfl
        simp only [List.length_cons] at h1 h2
        rw [if_pos rfl, if_pos rfl, sub_take (by omega), Option.bind_some, rlower_eq (s := (nameS (c :: r)).1) (by omega), Option.bind_some]
theorem note_l0 (s : List UInt8) (hl : s.length < 140737488355328) : ∀ (N i : Nat), s.length - i < N → i ≤ s.length →
    clerestoryref2_noteAt_l0 s (fun _ => some (⟨9, s, [], 0⟩ : TSToken)) N (i : Int) = some ⟨9, match noteI (s.drop i) with | some k => s.take (i + k + 2) | none => s, [], 0⟩
  | 0, i, hN, hi => by omega
  | N + 1, i, hN, hi => by
    rw [clerestoryref2_noteAt_l0, wi_id (by omega) (by omega), show (i : Int) + 1 = ((i + 1 : Nat) : Int) by omega]
    unfold clerestoryref2_noteAt_j3
    by_cases h2 : i + 1 < s.length
    · have h : i < s.length := by omega
      have e1 := List.drop_eq_getElem_cons h
      have e2 := List.drop_eq_getElem_cons h2
      have ih := note_l0 s hl N (i + 1) (by omega) (by omega)
      rw [e2] at ih
      rw [if_pos (by simp only [decide_eq_true_eq]; omega), at_some h, Option.bind_some, at_some h2, Option.bind_some, show decide ((s[i].toNat : Int) = 42) = decide (s[i] = 42) from byte_is _ 42 (by omega), show decide ((s[i + 1].toNat : Int) = 47) = decide (s[i + 1] = 47) from byte_is _ 47 (by omega),
        wi_id (by omega) (by omega), show (i : Int) + 1 = ((i + 1 : Nat) : Int) by omega, wi_id (by omega) (by omega), show (i : Int) + 2 = ((i + 2 : Nat) : Int) by omega, sub_take (by omega), Option.bind_some, ih, e1, e2]
      rw [show noteI (s[i] :: s[i + 1] :: s.drop (i + 1 + 1)) = if s[i] = 42 ∧ s[i + 1] = 47 then some 0 else (noteI (s[i + 1] :: s.drop (i + 1 + 1))).map (· + 1) from rfl]
      by_cases hc : s[i] = 42 ∧ s[i + 1] = 47
      · rw [if_pos (by simpa using hc.1), if_pos (by simpa using hc.2)]
        simp only [if_pos hc]
      · have fin : ∀ o : Option Nat, (some (⟨9, match o with | some k => s.take (i + 1 + k + 2) | none => s, [], 0⟩ : TSToken)) = some ⟨9, match o.map (· + 1) with | some k => s.take (i + k + 2) | none => s, [], 0⟩ := by
          intro o
          cases o with
          | none => rfl
          | some k => simp only [Option.map_some]; rw [show i + 1 + k + 2 = i + (k + 1) + 2 by omega]
        simp only [if_neg hc]
        by_cases c1 : s[i] = 42
        · rw [if_pos (by simpa using c1), if_neg (by simp; exact fun h => hc ⟨c1, h⟩)]
          exact fin _
        · rw [if_neg (by simpa using c1), if_neg (by simp)]
          exact fin _
    · rw [if_neg (by simp only [decide_eq_true_eq]; omega)]
      have : noteI (s.drop i) = none := by
        match hd : s.drop i with
        | [] => rfl
        | [_] => rfl
        | a :: b :: r =>
          have := congrArg List.length hd
          simp at this
          omega
      rw [this]
theorem noteAt_eq {s : List UInt8} (hl : s.length < 140737488355328) (h2 : 2 ≤ s.length) : clerestoryref2_noteAt s = some (noteT s) := by
  unfold clerestoryref2_noteAt noteT
  refine lim_of (s.length + 1) fun k hk => ?_
  rw [show (2 : Int) = ((2 : Nat) : Int) from rfl, note_l0 s hl k 2 (by omega) h2]
  cases noteI (s.drop 2) with
  | none => rfl
  | some k => simp only []; rw [show 2 + k + 2 = k + 4 by omega]
end Go.Proofs.YtdmmjgjmfpalhaaDoorBv
