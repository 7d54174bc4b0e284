/- The law PropTells, over plain values. No program is in sight. -/
import Derived.Test.YtmpdhpfimmahfaaDoorPFitsPropTells
import Derived.Test.YtmpdhpfimmahfaaDoorDTextPropTells
import Derived.Test.YtmpdhpfimmahfaaDoorCTextPropTells
namespace Go.Proofs.YtmpdhpfimmahfaaDoorBv
open Go
set_option linter.unusedSimpArgs false
set_option linter.unusedVariables false
/-- one row: its word for itself -/
def chkA (n : Nat) : Bool := match rowsAll[n]?, clerestoryref2_PropKinds_t0[n]? with
  | some r, some x => !has x 97 || decide (r.f_auto = clerestoryref2_PropAuto (n : Int))
  | _, _ => false
theorem all_auto : ((List.range 59).all chkA) = true := by decide +kernel
/-- what is known of a value that may be -/
theorem may_parts {p : Nat} (h : p < 59) (v : TVal) (hm : clerestoryref2_ValMay (p : Int) v = some true) : ∃ x, clerestoryref2_PropKinds_t0[p]? = some x ∧ (v.Kind = 6 → has x 97 = true) ∧
    (v.Kind = 1 → has x 107 = true ∧ ∃ l, clerestoryref2_PropKeys (p : Int) = some l ∧ 0 ≤ v.N ∧ v.N < (l.length : Int)) ∧ (v.Kind = 2 → -16777216 ≤ v.N ∧ v.N ≤ 16777216) := by
  have hlen : clerestoryref2_PropKinds_t0.length = 59 := by decide
  have hx : clerestoryref2_PropKinds_t0[p]? = some clerestoryref2_PropKinds_t0[p] := List.getElem?_eq_getElem (by omega)
  have hall := List.all_eq_true.1 all_rows p (List.mem_range.2 h)
  unfold chk at hall
  rw [hx] at hall
  have hl : clerestoryref2_PropKinds_t0[p].length < 1000 := by
    split at hall
    · rename_i r x h1 h2
      cases h2
      rw [Bool.and_eq_true, decide_eq_true_eq] at hall
      exact hall.1
    · cases hall
  refine ⟨_, hx, ?_⟩
  generalize clerestoryref2_PropKinds_t0[p] = x at hx hl
  unfold clerestoryref2_ValMay clerestoryref2_PropKinds at hm
  split at hm
  · cases hm
  · rw [Option.bind_some, at_nat, hx, Option.bind_some] at hm
    obtain ⟨c, hc, hm⟩ := Option.bind_eq_some_iff.1 hm
    rw [hasByte_eq _ _ hl, Option.bind_some] at hm
    split at hm
    · cases hm
    · rename_i hh
      have hh : (x.any fun y => decide ((y.toNat : Int) = (c.toNat : Int))) = true := by simpa using hh
      refine ⟨fun k => ?_, fun k => ?_, fun k => ?_⟩
      · rw [k] at hc
        have : c = 97 := (Option.some.inj (hc.symm.trans (show at? ([107, 108, 112, 110, 99, 97] : List UInt8) (wi (6 - 1)) = some 97 from rfl)))
        subst this
        exact hh
      · rw [k] at hc
        have : c = 107 := (Option.some.inj (hc.symm.trans (show at? ([107, 108, 112, 110, 99, 97] : List UInt8) (wi (1 - 1)) = some 107 from rfl)))
        subst this
        refine ⟨hh, ?_⟩
        rw [if_pos (by simpa using k)] at hm
        obtain ⟨l, hl2, hm⟩ := Option.bind_eq_some_iff.1 hm
        refine ⟨l, hl2, ?_⟩
        split at hm
        · rename_i hb
          rw [Bool.and_eq_true, decide_eq_true_eq, decide_eq_true_eq] at hb
          exact hb
        · cases hm
      · rw [if_neg (by simp [k]), if_neg (by simp [k]), if_neg (by simp [k])] at hm
        have j2 : ∀ b, clerestoryref2_ValMay_j2 (p : Int) v b = some true → -16777216 ≤ v.N ∧ v.N ≤ 16777216 := by
          intro b hb
          unfold clerestoryref2_ValMay_j2 at hb
          split at hb
          · cases hb
          · split at hb
            · cases hb
            · have := Option.some.inj hb
              rw [Bool.and_eq_true, decide_eq_true_eq, decide_eq_true_eq] at this
              exact this
        split at hm
        · exact j2 _ hm
        · obtain ⟨b, _, hm⟩ := Option.bind_eq_some_iff.1 hm
          exact j2 _ hm
theorem whole_eq (n : Int) (h : -100000000000 ≤ n ∧ n ≤ 100000000000) : ∃ q, prop_part n 64 = some q ∧ clerestoryref2_Whole n 64 = some q := by
  have hq : n.tdiv 64 * 64 + n.tmod 64 = n := by rw [Int.mul_comm]; exact Int.mul_tdiv_add_tmod n 64
  have hr : -64 < n.tmod 64 ∧ n.tmod 64 < 64 := by
    constructor
    · have := Int.lt_tmod_of_pos n (show (0 : Int) < 64 by decide); omega
    · exact Int.tmod_lt_of_pos n (by decide)
  have hs : 0 ≤ n → 0 ≤ n.tmod 64 := fun h => Int.tmod_nonneg 64 h
  unfold prop_part clerestoryref2_Whole prop_part_j1 clerestoryref2_Whole_j1
  rw [quoq (by decide), remq (by decide), Option.bind_some, Option.bind_some, Option.bind_some]
  have e : IntKind.i64.wrap (n.tdiv 64) = n.tdiv 64 := wi_id (by omega) (by omega)
  rw [e, wi_id (n := n.tdiv 64 * 64) (by omega) (by omega)]
  by_cases hc : n.tmod 64 < 0
  · exact ⟨_, by rw [if_pos (by simpa using hc)], by rw [if_pos (by simp only [decide_eq_true_eq]; omega)]⟩
  · exact ⟨_, by rw [if_neg (by simpa using hc)], by rw [if_neg (by simp only [decide_eq_true_eq]; omega)]⟩
theorem text_eq {p : Nat} (h : p < 59) (v : TVal) (hv : -9223372036854775808 ≤ v.N ∧ v.N ≤ 9223372036854775807) (hm : clerestoryref2_ValMay (p : Int) v = some true) :
    ∃ s, prop_Text (p : Int) v = some (s, 0) ∧ clerestoryref2_ValText (p : Int) v = some s := by
  obtain ⟨b, h1, h2⟩ := fits_eq h v hv
  rw [hm] at h2
  cases h2
  have hin : prop_in (p : Int) = true := by unfold prop_in; simp; omega
  obtain ⟨x, hx, m6, m1, m2⟩ := may_parts h v hm
  unfold prop_Text clerestoryref2_ValText
  rw [hin, if_neg (by decide), h1, Option.bind_some, if_neg (by decide)]
  have hall := List.all_eq_true.1 all_rows p (List.mem_range.2 h)
  unfold chk at hall
  have haut := List.all_eq_true.1 all_auto p (List.mem_range.2 h)
  unfold chkA at haut
  rw [hx] at hall haut
  cases hr : rowsAll[p]? with
  | none => rw [hr] at haut; cases haut
  | some r =>
    rw [hr] at hall haut
    have hrow : prop_at (p : Int) = some r := by rw [at_eq h, hr]
    simp only [Bool.and_eq_true, decide_eq_true_eq, beq_iff_eq] at hall
    obtain ⟨hl, habove, hlet, hkl, hkeys⟩ := hall
    by_cases k1 : v.Kind = 1
    · obtain ⟨hh, l, hl2, hb⟩ := m1 k1
      have n1 : decide (v.Kind = 1) = true := by simpa using k1
      rw [if_pos n1, if_pos n1, hrow, Option.bind_some, hl2, Option.bind_some]
      rw [hh, hl2] at hkeys
      simp only [Bool.not_true, Bool.false_or, decide_eq_true_eq] at hkeys
      have hs : strings_Split r.f_keys [32] = some (splitL r.f_keys [32]) := by
        show split? r.f_keys [32] = _
        unfold split?
        rw [if_pos ⟨hkl, by decide⟩]
      have hlen : (splitL r.f_keys [32]).length = l.length := by rw [← hkeys, List.length_map]
      obtain ⟨m, hm'⟩ : ∃ m : Nat, v.N = m := ⟨v.N.toNat, by omega⟩
      have hm1 : m < (splitL r.f_keys [32]).length := by omega
      have hm2 : m < l.length := by omega
      have e1 : l[m] = blank (splitL r.f_keys [32])[m] := by
        have e2 : l[m]? = ((splitL r.f_keys [32]).map blank)[m]? := by rw [hkeys]
        rw [List.getElem?_map, List.getElem?_eq_getElem hm1, List.getElem?_eq_getElem hm2] at e2
        exact Option.some.inj e2
      unfold prop_key prop_key_j1
      rw [hs, Option.bind_some, if_neg (by simp; omega), hm', at_some hm1, Option.bind_some, at_some hm2, Option.bind_some, e1]
      unfold blank
      by_cases hd : (splitL r.f_keys [32])[m] = [45]
      · exact ⟨[], by rw [if_pos (by simpa using hd)]; rfl, by rw [if_pos hd]; rfl⟩
      · exact ⟨(splitL r.f_keys [32])[m], by rw [if_neg (by simpa using hd)]; rfl, by rw [if_neg hd]; rfl⟩
    have n1 : ¬ (decide (v.Kind = 1) = true) := by simpa using k1
    rw [if_neg n1, if_neg n1]
    by_cases k6 : v.Kind = 6
    · have n6 : decide (v.Kind = 6) = true := by simpa using k6
      rw [if_pos n6, if_pos n6, hrow, Option.bind_some]
      simp only [] at haut
      rw [m6 k6] at haut
      simp only [Bool.not_true, Bool.false_or, decide_eq_true_eq] at haut
      exact ⟨_, rfl, by rw [haut]⟩
    have n6 : ¬ (decide (v.Kind = 6) = true) := by simpa using k6
    rw [if_neg n6, if_neg n6]
    by_cases k5 : v.Kind = 5
    · have n5 : decide (v.Kind = 5) = true := by simpa using k5
      rw [if_pos n5, if_pos n5, ctext_eq, Option.bind_some, rctext_eq, Option.bind_some]
      exact ⟨_, rfl, rfl⟩
    have n5 : ¬ (decide (v.Kind = 5) = true) := by simpa using k5
    rw [if_neg n5, if_neg n5]
    by_cases k2 : v.Kind = 2
    · have hb := m2 k2
      have n2 : decide (v.Kind = 2) = true := by simpa using k2
      rw [if_pos n2, if_pos n2, wi_id (n := 0 - v.N) (by omega) (by omega), wi_id (n := (0 - v.N) * 1000) (by omega) (by omega), wi_id (n := v.N * 1000) (by omega) (by omega), wi_id (n := 0 - v.N * 1000) (by omega) (by omega), show 0 - v.N * 1000 = (0 - v.N) * 1000 by omega]
      obtain ⟨q, q1, q2⟩ := whole_eq ((0 - v.N) * 1000) (by omega)
      rw [q1, q2, Option.bind_some, Option.bind_some]
      obtain ⟨s, s1, s2⟩ := dtext_eq (⟨wi (0 - q), [112, 120]⟩ : TSDim) (by simp)
      exact ⟨s, by rw [s1]; rfl, by rw [s2]; rfl⟩
    have n2 : ¬ (decide (v.Kind = 2) = true) := by simpa using k2
    rw [if_neg n2, if_neg n2]
    by_cases k3 : v.Kind = 3
    · have n3 : decide (v.Kind = 3) = true := by simpa using k3
      rw [if_pos n3, if_pos n3]
      obtain ⟨s, s1, s2⟩ := dtext_eq (⟨wi (10 * v.N), [37]⟩ : TSDim) (by simp)
      exact ⟨s, by rw [s1]; rfl, by rw [s2]; rfl⟩
    have n3 : ¬ (decide (v.Kind = 3) = true) := by simpa using k3
    rw [if_neg n3, if_neg n3]
    obtain ⟨s, s1, s2⟩ := dtext_eq (⟨v.N, []⟩ : TSDim) (by simp)
    exact ⟨s, by rw [s1]; rfl, by rw [s2]; rfl⟩
theorem purePropTells : PurePropTells := by
  intro p v hp hv
  have hp := ok_i64 hp
  have hn := ok_i64 hv.2
  unfold clerestorylaw2_PropTells clerestorylaw2_PropTells_j1
  have hfact : prop_Fits 35 (⟨5, 255⟩ : TVal) = some true := by
    obtain ⟨b, h1, h2⟩ := fits_eq (p := 35) (by decide) (⟨5, 255⟩ : TVal) (by decide)
    have h3 : clerestoryref2_ValMay 35 (⟨5, 255⟩ : TVal) = some true := by
      unfold clerestoryref2_ValMay clerestoryref2_PropKinds
      rw [if_neg (by decide), Option.bind_some, show at? clerestoryref2_PropKinds_t0 35 = some [99] from rfl, Option.bind_some, show at? ([107, 108, 112, 110, 99, 97] : List UInt8) (wi ((⟨5, 255⟩ : TVal).Kind - 1)) = some 99 from rfl, Option.bind_some, hasByte_eq _ _ (by decide)]
      rfl
    have h2' : clerestoryref2_ValMay 35 (⟨5, 255⟩ : TVal) = some b := h2
    rw [h3] at h2'
    cases h2'
    exact h1
  rw [hfact, Option.bind_some]
  by_cases hin : 0 ≤ p ∧ p < 59
  · obtain ⟨n, rfl⟩ : ∃ n : Nat, p = n := ⟨p.toNat, by omega⟩
    have hn59 : n < 59 := by omega
    obtain ⟨b, h1, h2⟩ := fits_eq hn59 v hn
    have hinp : prop_in (n : Int) = true := by unfold prop_in; simp; omega
    have hout : ¬ ((decide ((n : Int) < 0)) || (decide (59 ≤ (n : Int)))) = true := by simp; omega
    cases b with
    | false =>
      have e : prop_Text (n : Int) v = some ([], 3) := by
        unfold prop_Text
        rw [hinp, if_neg (by decide), h1, Option.bind_some, if_pos (by decide)]
      rw [e, Option.bind_some, if_neg hout, h2, Option.bind_some, if_pos (by decide)]
      rfl
    | true =>
      obtain ⟨s, s1, s2⟩ := text_eq hn59 v hn h2
      rw [s1, Option.bind_some, if_neg hout, h2, Option.bind_some, if_neg (by decide), if_pos (by simp), s2, Option.bind_some]
      simp
  · have e : prop_Text p v = some ([], 1) := by
      unfold prop_Text
      have : prop_in p = false := by
        unfold prop_in
        simp only [Bool.and_eq_false_iff, decide_eq_false_iff_not]
        omega
      rw [this, if_pos (by decide)]
    rw [e, Option.bind_some, if_pos (by simp; omega)]
    rfl
end Go.Proofs.YtmpdhpfimmahfaaDoorBv
