/- color.Read, its first steps: small letters, what a text begins or ends with, digits of sixteen. No program is in sight. -/
import Derived.Test.YtmpdhpfimmahfaaDoorShColorTells
import Derived.Test.YtmpdhpfimmahfaaDoorBv44
namespace Go.Proofs.YtmpdhpfimmahfaaDoorBv
open Go
set_option linter.unusedSimpArgs false
set_option linter.unusedVariables false
def lowB (c : UInt8) : UInt8 := if 65 ≤ c.toNat ∧ c.toNat ≤ 90 then c + 32 else c
theorem clower_l0 (s : List UInt8) (hl : s.length ≤ 140737488355328) : ∀ (N i : Nat), s.length - i < N → i ≤ s.length →
    color_lower_l0 (fun b => some (byts b)) N (ints ((s.take i).map lowB ++ s.drop i)) (s.length : Int) (i : Int) = some (s.map lowB)
  | 0, i, hN, hi => by omega
  | N + 1, i, hN, hi => by
    rw [color_lower_l0]
    have hlen : ((s.take i).map lowB).length = i := by simp; omega
    by_cases h : i < s.length
    · have hg : ((s.take i).map lowB ++ s.drop i)[i]? = some s[i] := by
        rw [List.getElem?_append_right (by omega), hlen]
        simp [h]
      have ih := clower_l0 s hl N (i + 1) (by omega) (by omega)
      have eset : ((s.take i).map lowB ++ s.drop i).set i (lowB s[i]) = (s.take (i + 1)).map lowB ++ s.drop (i + 1) := by
        rw [List.set_append_right _ _ (by omega), hlen, List.drop_eq_getElem_cons h, Nat.sub_self, List.set_cons_zero, List.take_add_one, List.getElem?_eq_getElem h]
        simp only [Option.toList_some, List.map_append, List.map_cons, List.map_nil, List.append_assoc, List.cons_append, List.nil_append]
      have hint : ∀ c : UInt8, (ints ((s.take i).map lowB ++ s.drop i)).set i (c.toNat : Int) = ints (((s.take i).map lowB ++ s.drop i).set i c) := by
        intro c
        unfold ints
        rw [List.map_set]
      have ha : at? (ints ((s.take i).map lowB ++ s.drop i)) (i : Int) = some (s[i].toNat : Int) := by rw [at_nat, ints_get, hg]; rfl
      rw [if_pos (by simp only [decide_eq_true_eq]; omega), ha, Option.bind_some, Option.bind_some]
      unfold color_lower_j3
      rw [wi_id (by omega) (by omega), show (i : Int) + 1 = ((i + 1 : Nat) : Int) by omega]
      by_cases hc : 65 ≤ s[i].toNat ∧ s[i].toNat ≤ 90
      · have e : lowB s[i] = s[i] + 32 := by unfold lowB; rw [if_pos hc]
        have e2 : wr .u8 ((s[i].toNat : Int) + 32) = ((lowB s[i]).toNat : Int) := by
          rw [e, wr_u8, UInt8.toNat_add]
          have : (32 : UInt8).toNat = 32 := rfl
          omega
        rw [if_pos (by simp; omega), e2, show ((i : Int)).toNat = i from rfl, hint, eset]
        exact ih
      · have e : lowB s[i] = s[i] := by unfold lowB; rw [if_neg hc]
        have eq : (s.take i).map lowB ++ s.drop i = (s.take (i + 1)).map lowB ++ s.drop (i + 1) := by
          rw [← eset, e]
          exact (set_selfB hg).symm
        rw [eq, if_neg (by simp; omega)]
        exact ih
    · have : i = s.length := by omega
      subst this
      rw [if_neg (by simp)]
      simp [byts_ints]
theorem clower_eq {s : List UInt8} (hl : s.length ≤ 140737488355328) : color_lower s = some (s.map lowB) := by
  unfold color_lower
  refine lim_of (s.length + 1) fun k hk => ?_
  have := clower_l0 s hl k 0 (by omega) (by omega)
  rw [ints_length]
  simpa using this
/-! ### what a text begins with -/
theorem hp_eq (s p : List UInt8) : internal_stringslite_HasPrefix s p = some (decide (s.take p.length = p)) := by
  unfold internal_stringslite_HasPrefix internal_stringslite_HasPrefix_j1
  by_cases h : p.length ≤ s.length
  · rw [if_pos (by simp only [decide_eq_true_eq]; omega), sub_take h, Option.bind_some]
  · rw [if_neg (by simp only [decide_eq_true_eq]; omega), List.take_of_length_le (by omega)]
    congr 1
    symm
    rw [decide_eq_false_iff_not]
    rintro rfl
    exact h (Nat.le_refl _)
theorem take_le {s p : List UInt8} (h : s.take p.length = p) : p.length ≤ s.length := by
  have := congrArg List.length h
  rw [List.length_take] at this
  omega
theorem cutPre_eq (s p : List UInt8) : strings_CutPrefix s p = some (if s.take p.length = p then (s.drop p.length, true) else (s, false)) := by
  unfold strings_CutPrefix internal_stringslite_CutPrefix
  rw [hp_eq, Option.bind_some]
  by_cases h : s.take p.length = p
  · rw [if_neg (by simp [h]), sub_drop (take_le h), if_pos h]; rfl
  · rw [if_pos (by simp [h]), if_neg h]; rfl
theorem trimPre_eq (s p : List UInt8) : strings_TrimPrefix s p = some (if s.take p.length = p then s.drop p.length else s) := by
  unfold strings_TrimPrefix internal_stringslite_TrimPrefix
  rw [hp_eq, Option.bind_some]
  by_cases h : s.take p.length = p
  · rw [if_pos (by simp [h]), sub_drop (take_le h), if_pos h]; rfl
  · rw [if_neg (by simp [h]), if_neg h]; rfl
theorem hasSuf_eq (s : List UInt8) (c : UInt8) (hl : s.length ≤ 140737488355328) : strings_HasSuffix s [c] = some (decide (s.getLast? = some c)) := by
  unfold strings_HasSuffix internal_stringslite_HasSuffix internal_stringslite_HasSuffix_j1
  rcases List.eq_nil_or_concat s with rfl | ⟨r, x, rfl⟩
  · rfl
  · rw [List.concat_eq_append] at hl ⊢
    rw [if_pos (by simp; omega), show (([c] : List UInt8).length : Int) = 1 from rfl, wi_id (by simp) (by simp at hl ⊢; omega), show (((r ++ [x]).length : Int)) - 1 = (r.length : Int) by simp, sub_nat (by simp) (Nat.le_refl _), List.take_length, List.drop_left]
    simp [eq_comm]
/-! ### digits of sixteen -/
def isHex (c : UInt8) : Bool := decide (48 ≤ c.toNat ∧ c.toNat ≤ 57 ∨ 97 ≤ c.toNat ∧ c.toNat ≤ 102)
def hexd (c : UInt8) : Nat := if c.toNat ≤ 57 then c.toNat - 48 else c.toNat - 87
theorem hexd_lt (c : UInt8) (h : isHex c = true) : hexd c < 16 := by
  unfold isHex at h; rw [decide_eq_true_eq] at h; unfold hexd; split <;> omega
def hexF (n : Nat) (l : List UInt8) : Nat := l.foldl (fun n c => 16 * n + hexd c) n
theorem hexF_ge : ∀ (l : List UInt8) (n : Nat), n ≤ hexF n l
  | [], n => Nat.le_refl _
  | c :: r, n => by
    have := hexF_ge r (16 * n + hexd c)
    show n ≤ hexF (16 * n + hexd c) r
    omega
theorem hexF_lt : ∀ (l : List UInt8) (n : Nat), l.all isHex = true → hexF n l < (n + 1) * 16 ^ l.length
  | [], n, _ => by show n < _; simp
  | c :: r, n, h => by
    rw [List.all_cons, Bool.and_eq_true] at h
    have h1 := hexF_lt r (16 * n + hexd c) h.2
    have h2 := hexd_lt c h.1
    show hexF (16 * n + hexd c) r < _
    refine Nat.lt_of_lt_of_le h1 ?_
    rw [List.length_cons, Nat.pow_succ, ← Nat.mul_assoc, Nat.mul_right_comm]
    exact Nat.mul_le_mul_right _ (by omega)
theorem hexset : ∀ c : UInt8, ([48, 49, 50, 51, 52, 53, 54, 55, 56, 57, 97, 98, 99, 100, 101, 102] : List UInt8).contains c = isHex c := by
  intro c
  have := u8_all (p := fun c => ([48, 49, 50, 51, 52, 53, 54, 55, 56, 57, 97, 98, 99, 100, 101, 102] : List UInt8).contains c == isHex c) (by decide +kernel) c
  simpa using this
theorem trimHex (s : List UInt8) (hl : s.length ≤ 140737488355328) : ∃ r, strings_Trim s [48, 49, 50, 51, 52, 53, 54, 55, 56, 57, 97, 98, 99, 100, 101, 102] = some r ∧ (decide (r = []) = s.all isHex) := by
  refine ⟨Lib.trimS s [48, 49, 50, 51, 52, 53, 54, 55, 56, 57, 97, 98, 99, 100, 101, 102], ?_, ?_⟩
  · show trim? _ _ = _
    unfold trim?
    rw [if_pos ⟨by omega, by simp, by decide⟩]
  · rw [Bool.eq_iff_iff, decide_eq_true_eq, trimS_nil, List.all_eq_true]
    constructor
    · intro h x hx; rw [← hexset]; exact h x hx
    · intro h x hx; rw [hexset]; exact h x hx
end Go.Proofs.YtmpdhpfimmahfaaDoorBv
