/- The first token of a text, and all of them, as the program cuts them. No program is in sight. -/
import Derived.Test.YteldbcjjojjjiaaDoorCutDimTells
namespace Go.Proofs.YteldbcjjojjjiaaDoorBv
open Go
set_option linter.unusedSimpArgs false
set_option linter.unusedVariables false
deriving instance DecidableEq for TSToken
def isBlank (c : UInt8) : Bool := decide (c = 32) || decide (c = 9) || decide (c = 10) || decide (c = 12) || decide (c = 13)
def nameT (s : List UInt8) : TSToken :=
  let k := (nameS s).2
  if (s.drop k).head? = some 40 then ⟨2, s.take (k + 1), (nameS s).1, 0⟩ else ⟨1, s.take k, (nameS s).1, 0⟩
def namedT (kind : Int) (s : List UInt8) : TSToken := ⟨kind, s.take (1 + (nameS (s.drop 1)).2), (nameS (s.drop 1)).1, 0⟩
def oneS (c : UInt8) : Int := if c = 40 ∨ c = 91 ∨ c = 123 then 10 else if c = 41 ∨ c = 93 ∨ c = 125 then 11 else if c = 92 then 6 else 12
/-- where a remark ends -/
def noteI : List UInt8 → Option Nat
  | [] => none
  | [_] => none
  | c :: d :: r => if c = 42 ∧ d = 47 then some 0 else (noteI (d :: r)).map (· + 1)
def noteT (s : List UInt8) : TSToken := ⟨9, match noteI (s.drop 2) with | some k => s.take (k + 4) | none => s, [], 0⟩
theorem noteI_le : ∀ (l : List UInt8) (k : Nat), noteI l = some k → k + 2 ≤ l.length
  | [], k, h => by cases h
  | [_], k, h => by cases h
  | c :: d :: r, k, h => by
    unfold noteI at h
    split at h
    · cases h; simp
    · cases hn : noteI (d :: r) with
      | none => rw [hn] at h; cases h
      | some j =>
        rw [hn] at h
        cases h
        have := noteI_le (d :: r) j hn
        simp only [List.length_cons] at this ⊢
        omega
theorem index_note : ∀ (l : List UInt8), Lib.index l [42, 47] = match noteI l with | some k => (k : Int) | none => -1
  | [] => rfl
  | [c] => by simp [Lib.index, noteI, List.isPrefixOf]
  | c :: d :: r => by
    have ih := index_note (d :: r)
    unfold Lib.index noteI
    have e : ([42, 47] : List UInt8).isPrefixOf (c :: d :: r) = decide (c = 42 ∧ d = 47) := by
      simp only [List.isPrefixOf, Bool.and_true]
      rw [Bool.eq_iff_iff]
      simp
      constructor
      · rintro ⟨rfl, rfl⟩; exact ⟨rfl, rfl⟩
      · rintro ⟨rfl, rfl⟩; exact ⟨rfl, rfl⟩
    rw [e]
    by_cases h : c = 42 ∧ d = 47
    · rw [if_pos (by simpa using h), if_pos h]; rfl
    · rw [if_neg (by simpa using h), if_neg h, ih]
      cases noteI (d :: r) with
      | none => rfl
      | some k =>
        simp only [Option.map_some]
        have hne : ¬ (((k : Int) == -1) = true) := by simp
        rw [if_neg hne]
        rfl
def hashB (r : List UInt8) : Bool := match r with
  | [] => false
  | d :: _ => isSign d || escS r
def tokS (c : UInt8) (r : List UInt8) : TSToken :=
  if c = 39 ∨ c = 34 then textT (c :: r) [] 1 (textS c r)
  else if c = 35 ∧ hashB r = true then namedT 4 (c :: r)
  else if c = 64 ∧ beginsS r = true then namedT 3 (c :: r)
  else if 0 < (numS (c :: r)).2 then numberS (c :: r) (numS (c :: r)).1 (numS (c :: r)).2.toNat
  else if beginsS (c :: r) then nameT (c :: r)
  else ⟨oneS c, [c], [], 0⟩
def firstS (s : List UInt8) : TSToken :=
  if s.takeWhile isBlank ≠ [] then ⟨8, s.takeWhile isBlank, [], 0⟩
  else if s.take 2 = [47, 42] then noteT s
  else match s with
    | [] => ⟨12, [], [], 0⟩
    | c :: r => tokS c r
theorem blanks_eq (c : UInt8) : ([32, 9, 10, 12, 13] : List UInt8).contains c = isBlank c := by
  have := u8_all (p := fun c => ([32, 9, 10, 12, 13] : List UInt8).contains c == isBlank c) (by decide +kernel) c
  simpa using this
theorem trim_eq (s : List UInt8) : strings_TrimLeft s [32, 9, 10, 12, 13] = some (s.dropWhile isBlank) := by
  show trimLeft? _ _ = _
  unfold trimLeft?
  rw [if_pos (by decide)]
  unfold Lib.trimLeftS
  congr 2
  funext c
  exact blanks_eq c
theorem prefix2 (s : List UInt8) (a b : UInt8) : strings_CutPrefix s [a, b] = some (if s.take 2 = [a, b] then (s.drop 2, true) else (s, false)) := by
  unfold strings_CutPrefix internal_stringslite_CutPrefix internal_stringslite_HasPrefix internal_stringslite_HasPrefix_j1
  by_cases hl : 2 ≤ s.length
  · have e1 : sub? s 0 ((([a, b] : List UInt8).length : Nat) : Int) = some (s.take 2) := sub_take (b := 2) hl
    have e2 : sub? s ((([a, b] : List UInt8).length : Nat) : Int) (s.length : Int) = some (s.drop 2) := sub_drop (a := 2) hl
    rw [if_pos (by simp; omega), e1, Option.bind_some, Option.bind_some, e2]
    by_cases h : s.take 2 = [a, b]
    · rw [if_neg (by simp [h]), if_pos h]; rfl
    · rw [if_pos (by simp [h]), if_neg h]; rfl
  · rw [if_neg (by simp; omega), Option.bind_some, if_pos (by rfl), if_neg (by
      intro h
      have := congrArg List.length h
      simp at this
      omega)]
    rfl
theorem one_eq (k : Int) (c : UInt8) (r : List UInt8) : csstok_first_fn1 k (c :: r) = some ⟨k, [c], [], 0⟩ := by
  unfold csstok_first_fn1
  have : sub? (c :: r) 0 1 = some [c] := sub_take (b := 1) (by simp)
  rw [this, Option.bind_some]
theorem nameT_eq {s : List UInt8} (hl : s.length < 140737488355328) : (csstok_named 1 s 0).bind (fun r_11 =>
    (sub? s (r_11.Raw.length : Int) (s.length : Int)).bind fun r_12 =>
    (strings_HasPrefix r_12 [40]).bind fun r_13 =>
    if r_13 then
      (sub? s 0 (wi ((r_11.Raw.length : Int) + 1))).bind fun r_14 =>
      csstok_first_j4 r_11 2 r_14
    else
      csstok_first_j4 r_11 r_11.Kind r_11.Raw) = some (nameT s) := by
  have h1 := named_eq (kind := 1) (s := s) (a := 0) hl (Nat.zero_le _)
  have h2 := nameS_le _ s rfl
  rw [show (((0 : Nat)) : Int) = 0 from rfl, List.drop_zero, Nat.zero_add] at h1
  have e : (s.take (nameS s).2).length = (nameS s).2 := by rw [List.length_take]; omega
  rw [h1, Option.bind_some]
  simp only [e]
  rw [sub_drop h2, Option.bind_some, hasPrefix1, Option.bind_some]
  unfold nameT csstok_first_j4
  by_cases h : (s.drop (nameS s).2).head? = some 40
  · have h3 : (nameS s).2 < s.length := by
      rcases Nat.lt_or_ge (nameS s).2 s.length with h | h'
      · exact h
      · rw [List.drop_eq_nil_of_le h'] at h; cases h
    rw [if_pos (by simpa using h), wi_id (by omega) (by omega), show ((nameS s).2 : Int) + 1 = (((nameS s).2 + 1 : Nat) : Int) by omega, sub_take (by omega), Option.bind_some]
    simp only [if_pos h]
  · rw [if_neg (by simpa using h)]
    simp only [if_neg h]
theorem fracN_le (l : List UInt8) : (if (fracN l).length = 0 then 0 else 1 + (fracN l).length) ≤ l.length := by
  unfold fracN
  cases l with
  | nil => simp
  | cons c r =>
    have := dropWhile_take isD r
    simp only [List.length_cons]
    by_cases hc : c = 46
    · rw [if_pos hc]
      split <;> omega
    · rw [if_neg hc]; simp
theorem numS_le (s : List UInt8) : 0 ≤ (numS s).2 ∧ (numS s).2 ≤ s.length := by
  unfold numS
  simp only
  split
  · simp
  · refine ⟨Int.natCast_nonneg _, ?_⟩
    have h1 : fromN s ≤ s.length := by
      unfold fromN
      split
      · simp
      · simp; split <;> omega
    have h2 := dropWhile_take isD (s.drop (fromN s))
    have h3 := fracN_le ((s.drop (fromN s)).drop ((s.drop (fromN s)).takeWhile isD).length)
    rw [List.length_drop] at h2
    rw [List.length_drop, List.length_drop] at h3
    omega
theorem j3_eq {c : UInt8} {r : List UInt8} (hl : (c :: r).length < 140737488355328) : csstok_first_j3 (c :: r) false = some (if 0 < (numS (c :: r)).2 then numberS (c :: r) (numS (c :: r)).1 (numS (c :: r)).2.toNat
  else if beginsS (c :: r) then nameT (c :: r)
  else ⟨oneS c, [c], [], 0⟩) := by
  unfold csstok_first_j3
  rw [if_neg (by simp), Number_eq (by omega), Option.bind_some]
  have hn := numS_le (c :: r)
  by_cases h0 : 0 < (numS (c :: r)).2
  · rw [if_pos (by simpa using h0), if_pos h0]
    have e : ((numS (c :: r)).2.toNat : Int) = (numS (c :: r)).2 := by omega
    rw [← e, number_eq hl (by omega), Option.bind_some]
    rfl
  · rw [if_neg (by simpa using h0), if_neg h0, begins_eq, Option.bind_some]
    cases hb : beginsS (c :: r) with
    | true => rw [if_pos rfl, if_pos rfl]; exact nameT_eq hl
    | false =>
      rw [if_neg (by simp), if_neg (by simp)]
      have h0 : at? (c :: r) 0 = some c := rfl
      rw [h0, Option.bind_some]
      rw [show decide ((c.toNat : Int) = 40) = decide (c = 40) from byte_is c 40 (by omega), show decide ((c.toNat : Int) = 91) = decide (c = 91) from byte_is c 91 (by omega), show decide ((c.toNat : Int) = 123) = decide (c = 123) from byte_is c 123 (by omega)]
      unfold csstok_first_j5 csstok_first_j6 oneS
      rw [show decide ((c.toNat : Int) = 41) = decide (c = 41) from byte_is c 41 (by omega), show decide ((c.toNat : Int) = 93) = decide (c = 93) from byte_is c 93 (by omega), show decide ((c.toNat : Int) = 125) = decide (c = 125) from byte_is c 125 (by omega), show decide ((c.toNat : Int) = 92) = decide (c = 92) from byte_is c 92 (by omega)]
      simp only [one_eq, Option.bind_some]
      by_cases c1 : c = 40
      · subst c1; rfl
      by_cases c2 : c = 91
      · subst c2; rfl
      by_cases c3 : c = 123
      · subst c3; rfl
      by_cases c4 : c = 41
      · subst c4; rfl
      by_cases c5 : c = 93
      · subst c5; rfl
      by_cases c6 : c = 125
      · subst c6; rfl
      by_cases c7 : c = 92
      · subst c7; rfl
      simp [c1, c2, c3, c4, c5, c6, c7]
theorem first_eq {s : List UInt8} (hs : s ≠ []) (hl : s.length < 4294967281) : csstok_first s = some (firstS s) := by
  have hdt := dropWhile_take isBlank s
  have htk := take_takeWhile isBlank s
  unfold csstok_first firstS
  rw [trim_eq, Option.bind_some, wi_id (by omega) (by omega), show (s.length : Int) - ((s.dropWhile isBlank).length : Int) = ((s.takeWhile isBlank).length : Int) by omega]
  by_cases hb : s.takeWhile isBlank = []
  · rw [if_neg (by simp [hb]), if_neg (by simp [hb]), prefix2, Option.bind_some]
    by_cases hp : s.take 2 = [47, 42]
    · rw [if_pos hp, if_pos hp, if_pos rfl]
      have h2 : 2 ≤ s.length := by
        have := congrArg List.length hp
        simp at this
        omega
      have hi : strings_Index (s.drop 2) [42, 47] = some (Lib.index (s.drop 2) [42, 47]) := by
        show index? _ _ = _
        unfold index?
        rw [if_pos (by rw [List.length_drop]; omega)]
      rw [hi, Option.bind_some]
      unfold csstok_first_j1 noteT
      rw [index_note]
      cases hn : noteI (s.drop 2) with
      | none => rw [if_neg (by decide)]
      | some k =>
        have hle := noteI_le _ _ hn
        rw [List.length_drop] at hle
        show (if decide (0 ≤ (k : Int)) = true then ((sub? s 0 (wi ((k : Int) + 4))).bind fun r_4 => some (⟨9, r_4, [], 0⟩ : TSToken)) else _) = _
        rw [if_pos (by simp), wi_id (by omega) (by omega), show (k : Int) + 4 = ((k + 4 : Nat) : Int) by omega, sub_take (by omega), Option.bind_some]
    · rw [if_neg hp, if_neg hp, if_neg (by simp)]
      match s, hs with
      | c :: r, _ =>
        have h0 : at? (c :: r) 0 = some c := rfl
        rw [h0, Option.bind_some, show decide ((c.toNat : Int) = 39) = decide (c = 39) from byte_is c 39 (by omega), show decide ((c.toNat : Int) = 34) = decide (c = 34) from byte_is c 34 (by omega), show decide ((c.toNat : Int) = 35) = decide (c = 35) from byte_is c 35 (by omega)]
        show _ = some (tokS c r)
        unfold tokS
        by_cases cq : c = 39 ∨ c = 34
        · rw [if_pos (by simpa using cq), if_pos cq, text_eq (q := c) rfl (by omega), Option.bind_some]
          rfl
        · rw [if_neg (by simpa using cq), if_neg cq]
          have n4 : csstok_named 4 (c :: r) 1 = some (namedT 4 (c :: r)) := named_eq (a := 1) (by omega) (by simp)
          have n3 : csstok_named 3 (c :: r) 1 = some (namedT 3 (c :: r)) := named_eq (a := 1) (by omega) (by simp)
          have hsub : sub? (c :: r) 1 (((c :: r).length : Nat) : Int) = some r := sub_drop (a := 1) (by simp)
          have j2 : csstok_first_j2 (c :: r) c false = some (if c = 64 ∧ beginsS r = true then namedT 3 (c :: r)
              else if 0 < (numS (c :: r)).2 then numberS (c :: r) (numS (c :: r)).1 (numS (c :: r)).2.toNat
              else if beginsS (c :: r) then nameT (c :: r)
              else ⟨oneS c, [c], [], 0⟩) := by
            unfold csstok_first_j2
            rw [if_neg (by simp), show decide ((c.toNat : Int) = 64) = decide (c = 64) from byte_is c 64 (by omega), hsub, Option.bind_some, begins_eq, Option.bind_some, j3_eq (by omega)]
            by_cases c64 : c = 64
            · rw [if_pos (by simpa using c64)]
              cases hb : beginsS r with
              | true =>
                rw [if_pos ⟨c64, rfl⟩]
                unfold csstok_first_j3
                rw [if_pos rfl, n3, Option.bind_some]
              | false => rw [if_neg (by simp), j3_eq (by omega)]
            · have n64 : ¬ (c = 64 ∧ beginsS r = true) := fun h => c64 h.1
              rw [if_neg (by simpa using c64), if_neg n64]
          by_cases c35 : c = 35
          · cases r with
            | nil =>
              have nh : ¬ (c = 35 ∧ hashB [] = true) := fun h => by cases h.2
              rw [if_neg (by simp), j2, if_neg nh]
            | cons d r =>
              have h1 : at? (c :: d :: r) 1 = some d := rfl
              rw [if_pos (by simp [c35]; omega), h1, Option.bind_some, sign_eq, hsub, Option.bind_some, escape_eq, Option.bind_some]
              have jt : csstok_first_j2 (c :: d :: r) c true = some (namedT 4 (c :: d :: r)) := by
                unfold csstok_first_j2
                rw [if_pos rfl, n4, Option.bind_some]
              cases hsd : isSign d with
              | true => rw [if_pos rfl, jt, if_pos ⟨c35, by simp [hashB, hsd]⟩]
              | false =>
                rw [if_neg (by simp)]
                cases he : escS (d :: r) with
                | true => rw [jt, if_pos ⟨c35, by simp [hashB, hsd, he]⟩]
                | false =>
                  have nh : ¬ (c = 35 ∧ hashB (d :: r) = true) := fun h => by have := h.2; simp [hashB, hsd, he] at this
                  rw [j2, if_neg nh]
          · have nh : ¬ (c = 35 ∧ hashB r = true) := fun h => c35 h.1
            rw [if_neg (by simp [c35]), j2, if_neg nh]
  · have hpos : 0 < (s.takeWhile isBlank).length := List.length_pos_iff.2 hb
    rw [if_pos (by simp only [decide_eq_true_eq]; omega), if_pos hb, sub_take (by omega), Option.bind_some, htk]
end Go.Proofs.YteldbcjjojjjiaaDoorBv
