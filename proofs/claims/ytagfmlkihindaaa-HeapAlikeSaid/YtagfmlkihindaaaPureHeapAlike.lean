/- The law of heaps that are alike, over plain values. No program is in sight. -/
import Derived.Test.YtagfmlkihindaaaHMoveHeapAlike
namespace Go.Proofs.YtagfmlkihindaaaBv
open Go
set_option linter.unusedSimpArgs false
set_option linter.unusedVariables false
theorem eqS_some (a b : List (List UInt8)) (ha : a.length ≤ 1000) : ∃ r, slices_Equal_string a b = some r := by
  unfold slices_Equal_string
  by_cases h : (a.length : Int) = (b.length : Int)
  · rw [if_neg (by simp [h])]
    have : ∀ (d i : Nat), i + d = a.length → ∃ r, ∀ m, slices_Equal_string_l0 a b (fun (_ : Unit) => some true) (m + d + 1) (i : Int) = some r := by
      intro d
      induction d with
      | zero =>
        intro i hi
        exact ⟨true, fun m => by rw [slices_Equal_string_l0, if_neg (by simp only [decide_eq_true_eq]; omega)]⟩
      | succ d ih =>
        intro i hi
        have h1 : i < a.length := by omega
        have h2 : i < b.length := by omega
        obtain ⟨r, hr⟩ := ih (i + 1) (by omega)
        by_cases he : a[i] = b[i]
        · refine ⟨r, fun m => ?_⟩
          rw [show m + (d + 1) + 1 = (m + d + 1) + 1 by omega, slices_Equal_string_l0, if_pos (by simp only [decide_eq_true_eq]; omega), at_some h1, Option.bind_some, at_some h2, Option.bind_some, if_neg (by simp [he]), wi_id (by omega) (by omega)]
          exact hr m
        · refine ⟨false, fun m => ?_⟩
          rw [slices_Equal_string_l0, if_pos (by simp only [decide_eq_true_eq]; omega), at_some h1, Option.bind_some, at_some h2, Option.bind_some, if_pos (by simp [he])]
    obtain ⟨r, hr⟩ := this a.length 0 (by omega)
    exact ⟨r, lim_add (a.length + 1) hr⟩
  · exact ⟨false, by rw [if_pos (by simp [h])]⟩
theorem eqV_some (a b : List TJVal) (ha : a.length ≤ 1000) : ∃ r, slices_Equal_JVal a b = some r := by
  unfold slices_Equal_JVal
  by_cases h : (a.length : Int) = (b.length : Int)
  · rw [if_neg (by simp [h])]
    have : ∀ (d i : Nat), i + d = a.length → ∃ r, ∀ m, slices_Equal_JVal_l0 a b (fun (_ : Unit) => some true) (m + d + 1) (i : Int) = some r := by
      intro d
      induction d with
      | zero =>
        intro i hi
        exact ⟨true, fun m => by rw [slices_Equal_JVal_l0, if_neg (by simp only [decide_eq_true_eq]; omega)]⟩
      | succ d ih =>
        intro i hi
        have h1 : i < a.length := by omega
        have h2 : i < b.length := by omega
        obtain ⟨r, hr⟩ := ih (i + 1) (by omega)
        by_cases he : (!(decide (a[i].Kind = b[i].Kind) && (decide (a[i].N = b[i].N) && (decide (a[i].S = b[i].S) && true)))) = true
        · refine ⟨false, fun m => ?_⟩
          rw [slices_Equal_JVal_l0, if_pos (by simp only [decide_eq_true_eq]; omega), at_some h1, Option.bind_some, at_some h2, Option.bind_some, letIn_eq, if_pos he]
        · refine ⟨r, fun m => ?_⟩
          rw [show m + (d + 1) + 1 = (m + d + 1) + 1 by omega, slices_Equal_JVal_l0, if_pos (by simp only [decide_eq_true_eq]; omega), at_some h1, Option.bind_some, at_some h2, Option.bind_some, letIn_eq, if_neg he, wi_id (by omega) (by omega)]
          exact hr m
    obtain ⟨r, hr⟩ := this a.length 0 (by omega)
    exact ⟨r, lim_add (a.length + 1) hr⟩
  · exact ⟨false, by rw [if_pos (by simp [h])]⟩
theorem same_fn (a b : TJCell) : heap_same a b = clerestoryref4_SameCells_fn1 a b := rfl
theorem same_some (a b : TJCell) (h1 : a.Names.length ≤ 1000) (h2 : a.Vals.length ≤ 1000) : ∃ r, heap_same a b = some r := by
  unfold heap_same heap_same_j1
  obtain ⟨r1, e1⟩ := eqS_some a.Names b.Names h1
  obtain ⟨r2, e2⟩ := eqV_some a.Vals b.Vals h2
  by_cases hk : a.Kind = b.Kind
  · rw [if_pos (by simpa using hk), e1, Option.bind_some]
    cases r1 with
    | true => rw [if_pos rfl, e2, Option.bind_some]; exact ⟨_, rfl⟩
    | false => exact ⟨_, rfl⟩
  · rw [if_neg (by simpa using hk)]; exact ⟨_, rfl⟩
theorem eqF_loop (a b : List TJCell) (K : Unit → Option Bool) : ∀ (k : Nat) (i : Int), slices_EqualFunc_JCell_l0 a b K k i = slices_EqualFunc_JCell1_l0 a b K k i
  | 0, i => rfl
  | k + 1, i => by
    rw [slices_EqualFunc_JCell_l0, slices_EqualFunc_JCell1_l0]
    simp only [same_fn, eqF_loop a b K k]
theorem eqF_same (a b : List TJCell) : slices_EqualFunc_JCell a b = slices_EqualFunc_JCell1 a b := by
  unfold slices_EqualFunc_JCell slices_EqualFunc_JCell1
  simp only [eqF_loop]
theorem eqF_some (a b : List TJCell) (ha : a.length ≤ 1000) (hc : ∀ c, c ∈ a → c.Names.length ≤ 1000 ∧ c.Vals.length ≤ 1000) : ∃ r, slices_EqualFunc_JCell a b = some r := by
  unfold slices_EqualFunc_JCell
  by_cases h : (a.length : Int) = (b.length : Int)
  · rw [if_neg (by simp [h])]
    have : ∀ (d i : Nat), i + d = a.length → ∃ r, ∀ m, slices_EqualFunc_JCell_l0 a b (fun (_ : Unit) => some true) (m + d + 1) (i : Int) = some r := by
      intro d
      induction d with
      | zero =>
        intro i hi
        exact ⟨true, fun m => by rw [slices_EqualFunc_JCell_l0, if_neg (by simp only [decide_eq_true_eq]; omega)]⟩
      | succ d ih =>
        intro i hi
        have h1 : i < a.length := by omega
        have h2 : i < b.length := by omega
        obtain ⟨r, hr⟩ := ih (i + 1) (by omega)
        obtain ⟨c1, c2⟩ := hc _ (List.getElem_mem h1)
        obtain ⟨s, hs⟩ := same_some a[i] b[i] c1 c2
        cases s with
        | false =>
          refine ⟨false, fun m => ?_⟩
          rw [slices_EqualFunc_JCell_l0, if_pos (by simp only [decide_eq_true_eq]; omega), at_some h1, Option.bind_some, at_some h2, Option.bind_some, hs, Option.bind_some, if_pos (by rfl)]
        | true =>
          refine ⟨r, fun m => ?_⟩
          rw [show m + (d + 1) + 1 = (m + d + 1) + 1 by omega, slices_EqualFunc_JCell_l0, if_pos (by simp only [decide_eq_true_eq]; omega), at_some h1, Option.bind_some, at_some h2, Option.bind_some, hs, Option.bind_some, if_neg (by simp), wi_id (by omega) (by omega)]
          exact hr m
    obtain ⟨r, hr⟩ := this a.length 0 (by omega)
    exact ⟨r, lim_add (a.length + 1) hr⟩
  · exact ⟨false, by rw [if_pos (by simp [h])]⟩
/-- what stands after both heaps were found right -/
theorem alike_head (g h : List TJCell) (a b : TJVal) (hg : HpOK g) (hh : HpOK h) (K : Unit → Option (Bool × Int)) : (lim fun kk => heap_Alike_l0 g h a b K kk 0) = if chk g ≠ 0 then some (false, chk g) else if chk h ≠ 0 then some (false, chk h) else K () := by
  refine lim_add 3 fun m => ?_
  rw [heap_Alike_l0, if_pos (by simp), show at? [g, h] 0 = some g from rfl, Option.bind_some, check_eq g hg, Option.bind_some]
  by_cases h1 : chk g = 0
  · rw [if_neg (by simp [h1]), if_neg (by simp [h1]), show wi (0 + 1) = 1 from rfl, heap_Alike_l0, if_pos (by simp), show at? [g, h] 1 = some h from rfl, Option.bind_some, check_eq h hh, Option.bind_some]
    by_cases h2 : chk h = 0
    · rw [if_neg (by simp [h2]), if_neg (by simp [h2]), show wi (1 + 1) = 2 from rfl, heap_Alike_l0, if_neg (by simp)]
    · rw [if_pos (by simp [h2]), if_pos h2]
  · rw [if_pos (by simp [h1]), if_pos h1]
theorem ask_bad {h : List TJCell} {v : TJVal} (hc : chk h = 0) : ask h v = if fitB h v then 0 else 1 := by
  unfold ask; rw [if_pos hc]
theorem say3 (r : Bool × Int) (g : List TJCell) (a : TJVal) (h : List TJCell) (b : TJVal) (say : Int) (h0 : say ≠ 0) : clerestorylaw4_HeapAlike_j3 r g a h b say = some ((!r.1) && (decide (r.2 = say))) := by
  unfold clerestorylaw4_HeapAlike_j3
  rw [if_pos (by simp [h0])]
theorem say2 (r : Bool × Int) (g : List TJCell) (a : TJVal) (h : List TJCell) (b : TJVal) (say : Int) (h0 : say ≠ 0) : clerestorylaw4_HeapAlike_j2 h b r g a say = some ((!r.1) && (decide (r.2 = say))) := by
  unfold clerestorylaw4_HeapAlike_j2
  rw [if_neg (by simpa using h0), say3 r g a h b say h0]
theorem say1 (r : Bool × Int) (g : List TJCell) (a : TJVal) (h : List TJCell) (b : TJVal) (say : Int) (h0 : say ≠ 0) : clerestorylaw4_HeapAlike_j1 g a h b r say = some ((!r.1) && (decide (r.2 = say))) := by
  unfold clerestorylaw4_HeapAlike_j1
  rw [if_neg (by simpa using h0), say2 r g a h b say h0]
theorem law_eq (g h : List TJCell) (a b : TJVal) (hg : HpOK g) (hh : HpOK h) : clerestorylaw4_HeapAlike g a h b = some true := by
  unfold clerestorylaw4_HeapAlike heap_Alike
  rw [alike_head g h a b hg hh, hasked0_eq g hg, hasked0_eq h hh]
  by_cases h1 : chk g = 0
  · rw [if_neg (by simp [h1])]
    by_cases h2 : chk h = 0
    · rw [if_neg (by simp [h2])]
      by_cases h3 : ask g a = 0
      · obtain ⟨x, r, x1, x2, x3, x4⟩ := move_eq g hg a h3
        by_cases h4 : ask h b = 0
        · obtain ⟨y, s, y1, y2, y3, y4⟩ := move_eq h hh b h4
          obtain ⟨e, he⟩ := eqF_some x y x1 x2
          have he2 := he
          rw [eqF_same] at he2
          have hcells : clerestoryref4_SameCells x y = some e := by unfold clerestoryref4_SameCells; rw [he2, Option.bind_some]
          have hj : ∀ q : Bool × Int, q.2 = 0 → (e = true → q.1 = (decide (r.Kind = s.Kind) && (decide (r.N = s.N) && (decide (r.S = s.S) && true)))) → (e = false → q.1 = false) → clerestorylaw4_HeapAlike_j1 g a h b q (chk h) = some true := by
            intro q q2 q3 q4
            unfold clerestorylaw4_HeapAlike_j1 clerestorylaw4_HeapAlike_j2 clerestorylaw4_HeapAlike_j3 clerestorylaw4_HeapAlike_j4
            rw [if_pos (by simpa using h2), hasked_eq g hg, Option.bind_some, if_pos (by simpa using h3), hasked_eq h hh, Option.bind_some, if_neg (by simp [h4]), x4, Option.bind_some, y4, Option.bind_some, hcells, Option.bind_some]
            cases e with
            | true =>
              rw [if_pos rfl, show at? [r] 0 = some r from rfl, Option.bind_some, show at? [s] 0 = some s from rfl, Option.bind_some, letIn_eq, q3 rfl, q2]
              simp
            | false =>
              rw [if_neg (by simp), q4 rfl, q2]
              simp
          rw [x3, Option.bind_some, if_neg (by simp), y3, Option.bind_some, if_neg (by simp), he, Option.bind_some]
          cases e with
          | true =>
            rw [if_pos rfl, show at? [r] 0 = some r from rfl, Option.bind_some, show at? [s] 0 = some s from rfl, Option.bind_some, letIn_eq]
            unfold heap_Alike_j1
            rw [Option.bind_some, Option.bind_some, if_pos (by simpa using h1), Option.bind_some]
            exact hj _ rfl (fun _ => rfl) (by simp)
          | false =>
            rw [if_neg (by simp)]
            unfold heap_Alike_j1
            rw [Option.bind_some, Option.bind_some, if_pos (by simpa using h1), Option.bind_some]
            exact hj _ rfl (by simp) (fun _ => rfl)
        · rw [x3, Option.bind_some, if_neg (by simp), move_bad h hh b h4, Option.bind_some, if_pos (by simp [h4]), Option.bind_some, Option.bind_some, if_pos (by simpa using h1), Option.bind_some]
          unfold clerestorylaw4_HeapAlike_j1 clerestorylaw4_HeapAlike_j2
          rw [if_pos (by simpa using h2), hasked_eq g hg, Option.bind_some, if_pos (by simpa using h3), hasked_eq h hh, Option.bind_some, say3 _ _ _ _ _ _ h4]
          simp
      · rw [move_bad g hg a h3, Option.bind_some, if_pos (by simp [h3]), Option.bind_some, Option.bind_some, if_pos (by simpa using h1), Option.bind_some]
        unfold clerestorylaw4_HeapAlike_j1
        rw [if_pos (by simpa using h2), hasked_eq g hg, Option.bind_some, say2 _ _ _ _ _ _ h3]
        simp
    · rw [if_pos h2, Option.bind_some, Option.bind_some, if_pos (by simpa using h1), Option.bind_some, say1 _ _ _ _ _ _ h2]
      simp
  · rw [if_pos h1, Option.bind_some, Option.bind_some, if_neg (by simpa using h1), say1 _ _ _ _ _ _ h1]
    simp
theorem heapOK_of {h : List TJCell} (hk : ok28 h) : HpOK h := by
  obtain ⟨h1, h2⟩ := hk
  refine ⟨?_, fun c hc => ?_⟩
  · unfold reachBytes at h1; unfold bd47; omega
  · obtain ⟨_, ⟨k1, _⟩, ⟨k2, _⟩⟩ := h2 c hc
    unfold reachBytes at k1 k2
    exact ⟨by unfold bd47; omega, by unfold bd47; omega⟩
theorem pureHeapAlike : PureHeapAlike := by
  intro g a h b hg _ hh _
  exact law_eq g h a b (heapOK_of hg) (heapOK_of hh)
end Go.Proofs.YtagfmlkihindaaaBv
