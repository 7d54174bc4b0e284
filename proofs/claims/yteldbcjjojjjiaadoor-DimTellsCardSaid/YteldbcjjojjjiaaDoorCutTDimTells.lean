/- All tokens of a text, as the program cuts them. No program is in sight. -/
import Derived.Test.YteldbcjjojjjiaaDoorFirstDimTells
namespace Go.Proofs.YteldbcjjojjjiaaDoorBv
open Go
set_option linter.unusedSimpArgs false
set_option linter.unusedVariables false
theorem take_pos {s : List UInt8} {m : Nat} (hs : s ≠ []) (h : 1 ≤ m) : 1 ≤ (s.take m).length ∧ (s.take m).length ≤ s.length := by
  have := List.length_pos_iff.2 hs
  rw [List.length_take]
  omega
theorem all_pos {s : List UInt8} (hs : s ≠ []) : 1 ≤ s.length ∧ s.length ≤ s.length := ⟨List.length_pos_iff.2 hs, Nat.le_refl _⟩
theorem nameS_pos {s : List UInt8} (h : beginsS s = true) : 1 ≤ (nameS s).2 := by
  match s, h with
  | [c], h =>
    have h : isStart c = true := h
    rw [nameS, if_pos (by simp [isSign, h])]
    simp
  | c :: d :: r, h =>
    have h : (if c = 45 then decide (d = 45) || isStart d || escS (d :: r) else isStart c || escS (c :: d :: r)) = true := h
    rw [nameS]
    by_cases h1 : c = 92 ∧ d ≠ 10
    · rw [if_pos h1]; simp only [addN]; omega
    · have hsg : isSign c = true := by
        by_cases hc : c = 45
        · simp [isSign, hc]
        · rw [if_neg hc] at h
          cases hst : isStart c with
          | true => simp [isSign, hst]
          | false =>
            rw [hst] at h
            simp only [escS, Bool.false_or, Bool.and_eq_true, decide_eq_true_eq, Bool.not_eq_true', decide_eq_false_iff_not] at h
            exact absurd h h1
      rw [if_neg h1, if_pos hsg]
      simp only [addN]; omega
theorem firstS_raw {s : List UInt8} (hs : s ≠ []) : 1 ≤ (firstS s).Raw.length ∧ (firstS s).Raw.length ≤ s.length := by
  unfold firstS
  have hdt := dropWhile_take isBlank s
  by_cases hb : s.takeWhile isBlank = []
  · rw [if_neg (by simp [hb])]
    by_cases hp : s.take 2 = [47, 42]
    · rw [if_pos hp]
      unfold noteT
      cases noteI (s.drop 2) with
      | some k => exact take_pos hs (by omega)
      | none => exact all_pos hs
    · rw [if_neg hp]
      match s, hs with
      | c :: r, hs =>
        show 1 ≤ (tokS c r).Raw.length ∧ (tokS c r).Raw.length ≤ _
        unfold tokS
        split
        · unfold textT
          split
          · exact take_pos hs (by omega)
          · split
            · exact take_pos hs (by omega)
            · exact all_pos hs
        · split
          · exact take_pos hs (by omega)
          · split
            · exact take_pos hs (by omega)
            · split
              · rename_i hn
                unfold numberS
                split
                · exact take_pos hs (by omega)
                · split
                  · exact take_pos hs (by omega)
                  · split
                    · exact take_pos hs (by omega)
                    · exact take_pos hs (by omega)
              · split
                · rename_i hbeg
                  have := nameS_pos hbeg
                  unfold nameT
                  simp only
                  split
                  · exact take_pos hs (by omega)
                  · exact take_pos hs (by omega)
                · simp
  · rw [if_pos hb]
    have := List.length_pos_iff.2 hb
    exact ⟨this, by show (s.takeWhile isBlank).length ≤ _; omega⟩
def cutF : Nat → List UInt8 → List TSToken
  | 0, _ => []
  | N + 1, s => if s = [] then [] else firstS s :: cutF N (s.drop (firstS s).Raw.length)
def cutS (s : List UInt8) : List TSToken := cutF s.length s
theorem cutF_nil (N : Nat) : cutF N [] = [] := by cases N <;> rfl
theorem cutF_more : ∀ (N M : Nat) (s : List UInt8), s.length ≤ N → s.length ≤ M → cutF N s = cutF M s
  | 0, M, s, h1, h2 => by
    rw [show s = [] from List.eq_nil_of_length_eq_zero (by omega), cutF_nil, cutF_nil]
  | N + 1, 0, s, h1, h2 => by
    rw [show s = [] from List.eq_nil_of_length_eq_zero (by omega), cutF_nil, cutF_nil]
  | N + 1, M + 1, s, h1, h2 => by
    rw [cutF, cutF]
    by_cases hs : s = []
    · rw [if_pos hs, if_pos hs]
    · have := firstS_raw hs
      rw [if_neg hs, if_neg hs, cutF_more N M _ (by rw [List.length_drop]; omega) (by rw [List.length_drop]; omega)]
theorem cut_l0 : ∀ (N : Nat) (s : List UInt8) (out : List TSToken), s.length < N → s.length < 4294967281 → out.length + s.length < 4294967281 →
    csstok_Cut_l0 (fun out => some out) N s out = some (out ++ cutS s)
  | 0, s, out, hN, hl, ho => by omega
  | N + 1, s, out, hN, hl, ho => by
    rw [csstok_Cut_l0]
    by_cases hs : s = []
    · subst hs
      rw [if_neg (by simp)]
      simp [cutS, cutF]
    · obtain ⟨h1, h2⟩ := firstS_raw hs
      rw [if_pos (by simp [hs]), first_eq hs hl, Option.bind_some, appq (by simp; omega), Option.bind_some, sub_drop h2, Option.bind_some, cut_l0 N _ _ (by rw [List.length_drop]; omega) (by rw [List.length_drop]; omega) (by rw [List.length_append, List.length_drop]; simp; omega)]
      congr 1
      rw [List.append_assoc]
      congr 1
      unfold cutS
      have hlen : s.length = (s.length - 1) + 1 := by omega
      rw [hlen, cutF, if_neg hs, cutF_more (s.length - 1) (s.drop (firstS s).Raw.length).length _ (by rw [List.length_drop]; omega) (Nat.le_refl _)]
      rfl
theorem cut_eq {s : List UInt8} (hl : s.length < 4294967281) : csstok_Cut s = some (cutS s) := by
  unfold csstok_Cut
  exact lim_of (s.length + 1) fun k hk => by rw [cut_l0 k s [] (by omega) hl (by simpa using hl)]; rfl
end Go.Proofs.YteldbcjjojjjiaaDoorBv
