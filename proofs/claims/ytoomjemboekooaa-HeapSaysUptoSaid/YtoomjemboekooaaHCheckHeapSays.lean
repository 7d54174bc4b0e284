/- Cells of a heap: the program's and the document's check, over plain values. No program is in sight. -/
import Derived.Test.YtoomjemboekooaaShHeapSays
import Derived.Test.YtoomjemboekooaaBv23
namespace Go.Proofs.YtoomjemboekooaaBv
open Go
set_option linter.unusedSimpArgs false
set_option linter.unusedVariables false
theorem value_right (v : TJVal) : value_Check v = clerestoryref4_ValueRight v := by
  obtain ⟨k, n, s⟩ := v
  unfold value_Check clerestoryref4_ValueRight clerestoryref4_ValueRight_j1 value_within clerestoryref4_Between
  simp only [letIn_eq]
  by_cases h0 : k = 0
  · simp [h0]
  · by_cases h1 : k = 1
    · subst h1
      rw [if_neg (by simp), if_pos (by simp), if_neg (by simp), if_pos (by simp)]
      rw [Bool.eq_iff_iff]
      simp only [Bool.and_eq_true, Bool.or_eq_true, decide_eq_true_eq, and_true, true_and, eq_self]
      constructor
      · rintro ⟨⟨a, b⟩, c⟩
        rcases (show n = 0 ∨ n = 1 by omega) with h | h
        · exact Or.inl ⟨h, c⟩
        · exact Or.inr ⟨h, c⟩
      · rintro (⟨a, b⟩ | ⟨a, b⟩)
        · exact ⟨⟨by omega, by omega⟩, b⟩
        · exact ⟨⟨by omega, by omega⟩, b⟩
    · by_cases h2 : k = 2
      · subst h2
        simp [Bool.and_comm]
      · by_cases h3 : k = 3
        · subst h3
          simp [Bool.and_comm]
        · by_cases h4 : k = 4
          · subst h4
            rw [if_neg (by simp), if_neg (by simp), if_neg (by simp), if_neg (by simp), if_pos (by simp), if_neg (by simp), if_neg (by simp), if_neg (by simp), if_neg (by simp), if_pos (by simp)]
            rw [Bool.eq_iff_iff]
            simp only [Bool.and_eq_true, decide_eq_true_eq, and_true, true_and, eq_self]
            constructor
            · rintro ⟨a, b⟩; exact ⟨b, by omega⟩
            · rintro ⟨a, b⟩; exact ⟨by omega, a⟩
          · by_cases h5 : k = 5
            · subst h5
              simp
            · simp [h0, h1, h2, h3, h4, h5]
theorem right_ref {v : TJVal} (h : clerestoryref4_ValueRight v = true) (h4 : v.Kind = 4) : 0 ≤ v.N := by
  unfold clerestoryref4_ValueRight at h
  rw [h4] at h
  simp only [letIn_eq] at h
  simp at h
  omega
def kindAt (h : List TJCell) (n : Int) : Bool := match h[n.toNat]? with
  | some c => !decide (c.Kind = 0)
  | none => false
def fitB (h : List TJCell) (v : TJVal) : Bool := clerestoryref4_ValueRight v && (!decide (v.Kind = 4) || (decide (v.N < (h.length : Int)) && kindAt h v.N))
theorem at_kind (h : List TJCell) (n : Int) (h0 : 0 ≤ n) (h1 : n < (h.length : Int)) (F : TJCell → Option Bool) : ∃ c, at? h n = some c ∧ kindAt h n = !decide (c.Kind = 0) := by
  have hn : n.toNat < h.length := by omega
  refine ⟨h[n.toNat], ?_, ?_⟩
  · rw [at_of h0, List.getElem?_eq_getElem hn]
  · unfold kindAt; rw [List.getElem?_eq_getElem hn]
theorem valueIn_eq (h : List TJCell) (v : TJVal) : clerestoryref4_valueIn h v = some (fitB h v) := by
  unfold clerestoryref4_valueIn clerestoryref4_valueIn_j1 fitB
  cases hr : clerestoryref4_ValueRight v with
  | false => simp
  | true =>
    by_cases h4 : v.Kind = 4
    · rw [if_pos rfl, if_neg (by simp [h4])]
      have h0 := right_ref hr h4
      by_cases h1 : v.N < (h.length : Int)
      · obtain ⟨c, e1, e2⟩ := at_kind h v.N h0 h1 (fun _ => none)
        rw [if_pos (by simpa using h1), e1, Option.bind_some, e2]
        simp [h4, h1]
      · rw [if_neg (by simpa using h1)]
        simp [h4, h1]
    · simp [h4]
theorem fits_eq (h : List TJCell) (v : TJVal) : heap_fits h v = some (fitB h v) := by
  unfold heap_fits heap_fits_j1 fitB heap_ref
  rw [value_right]
  cases hr : clerestoryref4_ValueRight v with
  | false => simp
  | true =>
    by_cases h4 : v.Kind = 4
    · have h0 := right_ref hr h4
      simp only [if_pos (show decide (v.Kind = 4) = true by simpa using h4)]
      rw [if_pos trivial, if_neg (by simpa using h0)]
      by_cases h1 : v.N < (h.length : Int)
      · obtain ⟨c, e1, e2⟩ := at_kind h v.N h0 h1 (fun _ => none)
        rw [if_pos (by simpa using h1), e1, Option.bind_some, e2]
        simp [h4, h1]
      · rw [if_neg (by simpa using h1)]
        simp [h4, h1]
    · simp [h4]
/-- names in order, from one on -/
def risR (l : List (List UInt8)) : Nat → Nat → Bool
  | 0, _ => true
  | d + 1, k => Go.Op.bytesLess (l.getD (k - 1) []) (l.getD k []) && risR l d (k + 1)
def bd47 : Nat := 140737488355328
theorem rising_loop (l : List (List UInt8)) (hl : l.length ≤ bd47) (K : Unit → Option Bool) : ∀ (d k : Nat), 1 ≤ k → k + d = l.length → ∀ m, heap_rising_l0 l K (m + d + 1) (k : Int) = if risR l d k then K () else some false
  | 0, k, h1, hk, m => by
    rw [heap_rising_l0, if_neg (by simp only [decide_eq_true_eq]; omega), risR, if_pos rfl]
  | d + 1, k, h1, hk, m => by
    unfold bd47 at hl
    have h : k < l.length := by omega
    rw [heap_rising_l0, if_pos (by simp only [decide_eq_true_eq]; omega), wi_id (by omega) (by omega), show (k : Int) - 1 = ((k - 1 : Nat) : Int) by omega, at_some (show k - 1 < l.length by omega), Option.bind_some, at_some h, Option.bind_some, risR]
    have g1 : l.getD (k - 1) [] = l[k - 1] := by rw [List.getD_eq_getElem?_getD, List.getElem?_eq_getElem (by omega)]; rfl
    have g2 : l.getD k [] = l[k] := by rw [List.getD_eq_getElem?_getD, List.getElem?_eq_getElem h]; rfl
    rw [g1, g2]
    cases hb : Go.Op.bytesLess l[k - 1] l[k] with
    | false => rw [if_pos (by rfl), Bool.false_and, if_neg (by simp)]
    | true =>
      rw [if_neg (by simp), Bool.true_and, wi_id (by omega) (by omega), show (k : Int) + 1 = ((k + 1 : Nat) : Int) by omega]
      exact rising_loop l hl K d (k + 1) (by omega) (by omega) m
def risB (l : List (List UInt8)) : Bool := risR l (l.length - 1) 1
theorem rising_eq (l : List (List UInt8)) (hl : l.length ≤ bd47) : heap_rising l = some (risB l) := by
  unfold heap_rising risB
  by_cases h0 : l.length = 0
  · refine lim_add 1 fun m => ?_
    rw [heap_rising_l0, if_neg (by simp only [decide_eq_true_eq]; omega), h0, risR]
  · refine lim_add (l.length - 1 + 1) fun m => ?_
    refine (rising_loop l hl _ (l.length - 1) 1 (by omega) (by omega) m).trans ?_
    cases risR l (l.length - 1) 1 <;> rfl
theorem ris_ref (x : TJCell) (h : List TJCell) (large : Bool) (v15 : Int) (hl : x.Names.length ≤ bd47) (K : Bool → Option Int) : ∀ (d k : Nat), 1 ≤ k → k + d = x.Names.length → ∀ (b : Bool) (m : Nat), clerestoryref4_CellsRight_l5 x h large v15 K (m + d + 1) b (k : Int) = K (b && risR x.Names d k)
  | 0, k, h1, hk, b, m => by
    rw [clerestoryref4_CellsRight_l5, if_neg (by simp only [decide_eq_true_eq]; omega), risR, Bool.and_true]
  | d + 1, k, h1, hk, b, m => by
    unfold bd47 at hl
    have hlt : k < x.Names.length := by omega
    rw [clerestoryref4_CellsRight_l5, if_pos (by simp only [decide_eq_true_eq]; omega), risR]
    unfold clerestoryref4_CellsRight_j18
    have g1 : x.Names.getD (k - 1) [] = x.Names[k - 1] := by rw [List.getD_eq_getElem?_getD, List.getElem?_eq_getElem (by omega)]; rfl
    have g2 : x.Names.getD k [] = x.Names[k] := by rw [List.getD_eq_getElem?_getD, List.getElem?_eq_getElem hlt]; rfl
    have e1 : wi ((k : Int) + 1) = ((k + 1 : Nat) : Int) := by rw [wi_id (by omega) (by omega)]; omega
    cases b with
    | false =>
      rw [if_neg (by simp), e1]
      refine (ris_ref x h large v15 hl K d (k + 1) (by omega) (by omega) false m).trans ?_
      simp
    | true =>
      rw [if_pos rfl, if_neg (by simp only [decide_eq_true_eq]; omega), wi_id (n := (k : Int) - 1) (by omega) (by omega), show (k : Int) - 1 = ((k - 1 : Nat) : Int) by omega, at_some (show k - 1 < x.Names.length by omega), Option.bind_some, at_some hlt, Option.bind_some, e1, g1, g2]
      refine (ris_ref x h large v15 hl K d (k + 1) (by omega) (by omega) _ m).trans ?_
      simp
theorem ris_ref0 (x : TJCell) (h : List TJCell) (large : Bool) (v15 : Int) (hl : x.Names.length ≤ bd47) (K : Bool → Option Int) (b : Bool) : (lim fun kk => clerestoryref4_CellsRight_l5 x h large v15 K kk b 0) = K (b && risB x.Names) := by
  unfold risB
  by_cases h0 : x.Names.length = 0
  · refine lim_add 1 fun m => ?_
    rw [clerestoryref4_CellsRight_l5, if_neg (by simp only [decide_eq_true_eq]; omega), h0, risR, Bool.and_true]
  · refine lim_add (x.Names.length - 1 + 2) fun m => ?_
    rw [show m + (x.Names.length - 1 + 2) = (m + (x.Names.length - 1) + 1) + 1 by omega, clerestoryref4_CellsRight_l5, if_pos (by simp only [decide_eq_true_eq]; omega)]
    unfold clerestoryref4_CellsRight_j18
    cases b with
    | false =>
      rw [if_neg (by simp)]
      exact ris_ref x h large v15 hl K (x.Names.length - 1) 1 (by omega) (by omega) false m
    | true =>
      rw [if_pos rfl, if_pos (by decide)]
      exact ris_ref x h large v15 hl K (x.Names.length - 1) 1 (by omega) (by omega) true m
theorem vals_prog (l : List TJVal) (h : List TJCell) (hl : l.length ≤ bd47) : ∀ (d i : Nat), i + d = l.length → ∃ r : Int, (0 ≤ r ↔ (l.drop i).all (fitB h) = false) ∧ ∀ m, slices_IndexFunc_JVal_l0 l h (fun _ => some (-1)) (m + d + 1) (i : Int) = some r
  | 0, i, hi => by
    refine ⟨-1, by rw [List.drop_eq_nil_of_le (by omega)]; simp, fun m => ?_⟩
    rw [slices_IndexFunc_JVal_l0, if_neg (by simp only [decide_eq_true_eq]; omega)]
  | d + 1, i, hi => by
    have hlt : i < l.length := by omega
    obtain ⟨r, r1, r2⟩ := vals_prog l h hl d (i + 1) (by omega)
    unfold bd47 at hl
    cases hv : fitB h l[i] with
    | false =>
      refine ⟨i, by rw [List.drop_eq_getElem_cons hlt, List.all_cons, hv, Bool.false_and]; exact ⟨fun _ => rfl, fun _ => by omega⟩, fun m => ?_⟩
      rw [slices_IndexFunc_JVal_l0, if_pos (by simp only [decide_eq_true_eq]; omega), at_some hlt, Option.bind_some, heap_cell_fn1, fits_eq, Option.bind_some, Option.bind_some, hv, if_pos (by rfl)]
    | true =>
      refine ⟨r, by rw [r1, List.drop_eq_getElem_cons hlt, List.all_cons, hv, Bool.true_and], fun m => ?_⟩
      rw [slices_IndexFunc_JVal_l0, if_pos (by simp only [decide_eq_true_eq]; omega), at_some hlt, Option.bind_some, heap_cell_fn1, fits_eq, Option.bind_some, Option.bind_some, hv, if_neg (by simp), wi_id (by omega) (by omega), show (i : Int) + 1 = ((i + 1 : Nat) : Int) by omega]
      exact r2 m
theorem containsF_eq (l : List TJVal) (h : List TJCell) (hl : l.length ≤ bd47) : slices_ContainsFunc_JVal l h = some (!l.all (fitB h)) := by
  obtain ⟨r, r1, r2⟩ := vals_prog l h hl l.length 0 (by omega)
  unfold slices_ContainsFunc_JVal slices_IndexFunc_JVal
  rw [show (lim fun kk => slices_IndexFunc_JVal_l0 l h (fun _ => some (-1)) kk 0) = some r from lim_add (l.length + 1) fun m => r2 m, Option.bind_some]
  congr 1
  rw [List.drop_zero] at r1
  cases ha : l.all (fitB h) with
  | true =>
    have : ¬ 0 ≤ r := by rw [r1, ha]; simp
    simp [this]
  | false =>
    have : 0 ≤ r := by rw [r1, ha]
    simp [this]
theorem vals_ref (x : TJCell) (h : List TJCell) (large : Bool) (v15 : Int) (hl : x.Vals.length ≤ bd47) (K : Bool → Option Int) : ∀ (d k : Nat), k + d = x.Vals.length → ∀ (b : Bool) (m : Nat), clerestoryref4_CellsRight_l6 x h large v15 K (m + d + 1) b (k : Int) = K (b && (x.Vals.drop k).all (fitB h))
  | 0, k, hk, b, m => by
    rw [clerestoryref4_CellsRight_l6, if_neg (by simp only [decide_eq_true_eq]; omega), List.drop_eq_nil_of_le (by omega)]
    simp
  | d + 1, k, hk, b, m => by
    unfold bd47 at hl
    have hlt : k < x.Vals.length := by omega
    rw [clerestoryref4_CellsRight_l6, if_pos (by simp only [decide_eq_true_eq]; omega), at_some hlt, Option.bind_some]
    unfold clerestoryref4_CellsRight_j21
    have e1 : wi ((k : Int) + 1) = ((k + 1 : Nat) : Int) := by rw [wi_id (by omega) (by omega)]; omega
    rw [List.drop_eq_getElem_cons hlt, List.all_cons]
    cases b with
    | false =>
      rw [if_neg (by simp), e1]
      refine (vals_ref x h large v15 hl K d (k + 1) (by omega) false m).trans ?_
      simp
    | true =>
      rw [if_pos rfl, valueIn_eq, Option.bind_some, e1]
      refine (vals_ref x h large v15 hl K d (k + 1) (by omega) _ m).trans ?_
      simp
def cellB (h : List TJCell) (c : TJCell) : Bool :=
  (((clerestoryref4_Between c.Kind 0 3) && ((!decide (c.Kind = 0)) || (decide ((c.Vals.length : Int) = 0)))) && (if c.Kind = 2 then (decide ((c.Names.length : Int) = (c.Vals.length : Int))) else decide ((c.Names.length : Int) = 0))) && (risB c.Names && c.Vals.all (fitB h))
def CellOK (c : TJCell) : Prop := c.Names.length ≤ bd47 ∧ c.Vals.length ≤ bd47
theorem cell_eq (h : List TJCell) (c : TJCell) (hc : CellOK c) : heap_cell h c = some (cellB h c) := by
  have hj : ∀ n : Int, heap_cell_j3 c h n = some (decide ((c.Names.length : Int) = n) && (risB c.Names && c.Vals.all (fitB h))) := by
    intro n
    unfold heap_cell_j3 heap_cell_j4
    by_cases h1 : (c.Names.length : Int) = n
    · rw [if_pos (by simpa using h1), rising_eq _ hc.1, Option.bind_some]
      cases risB c.Names with
      | true =>
        rw [if_pos rfl, containsF_eq _ _ hc.2, Option.bind_some]
        simp [h1]
      | false => simp
    · rw [if_neg (by simpa using h1)]
      simp [h1]
  unfold heap_cell heap_cell_j5 cellB clerestoryref4_Between
  simp only [hj]
  by_cases h0 : c.Kind = 0
  · rw [if_pos (by simpa using h0)]
    by_cases h1 : 0 < c.Vals.length
    · have : ¬ (c.Vals.length : Int) = 0 := by omega
      rw [if_pos (by simp only [decide_eq_true_eq]; omega), decide_eq_false this, decide_eq_true h0]
      simp
    · have h2 : (c.Vals.length : Int) = 0 := by omega
      rw [if_neg (by simp only [decide_eq_true_eq]; omega)]
      simp [h0, h2]
  · rw [if_neg (by simpa using h0)]
    by_cases h1 : c.Kind = 1
    · simp [h1]
    · rw [if_neg (by simpa using h1)]
      by_cases h3 : c.Kind = 3
      · simp [h3]
      · rw [if_neg (by simpa using h3)]
        by_cases h2 : c.Kind = 2
        · simp [h2]
        · have : ¬ (0 ≤ c.Kind ∧ c.Kind ≤ 3) := by omega
          rw [if_neg (by simpa using h2)]
          have e : (decide (0 ≤ c.Kind) && decide (c.Kind ≤ 3)) = false := by
            rw [Bool.eq_false_iff]
            intro hx
            rw [Bool.and_eq_true, decide_eq_true_eq, decide_eq_true_eq] at hx
            exact this hx
          rw [e]
          simp
def large (h : List TJCell) : Bool := decide (300 < (h.length : Int)) || h.any fun c => decide (200 < (c.Vals.length : Int))
def chk (h : List TJCell) : Int := if large h then 2 else if h.all (cellB h) then 0 else 3
def HpOK (h : List TJCell) : Prop := h.length ≤ bd47 ∧ ∀ c, c ∈ h → CellOK c
theorem check_l0 (h : List TJCell) (hh : HpOK h) (K : Unit → Option Int) : ∀ (d i : Nat), i + d = h.length → ∀ m, heap_Check_l0 h K (m + d + 1) (i : Int) = if (h.drop i).any (fun c => decide (200 < (c.Vals.length : Int))) then some 2 else K ()
  | 0, i, hi, m => by
    rw [heap_Check_l0, if_neg (by simp only [decide_eq_true_eq]; omega), List.drop_eq_nil_of_le (by omega)]
    simp
  | d + 1, i, hi, m => by
    have hb := hh.1
    unfold bd47 at hb
    have hlt : i < h.length := by omega
    rw [heap_Check_l0, if_pos (by simp only [decide_eq_true_eq]; omega), at_some hlt, Option.bind_some, List.drop_eq_getElem_cons hlt, List.any_cons]
    by_cases h2 : 200 < (h[i].Vals.length : Int)
    · rw [if_pos (by simpa using h2), if_pos (by simp only [h2, decide_true, Bool.true_or])]
    · rw [if_neg (by simpa using h2), wi_id (by omega) (by omega), show (i : Int) + 1 = ((i + 1 : Nat) : Int) by omega, show m + (d + 1) = m + d + 1 by omega, check_l0 h hh K d (i + 1) (by omega) m]
      simp only [h2, decide_false, Bool.false_or]
theorem check_l1 (h : List TJCell) (hh : HpOK h) (K : Unit → Option Int) : ∀ (d i : Nat), i + d = h.length → ∀ m, heap_Check_l1 h K (m + d + 1) (i : Int) = if (h.drop i).all (cellB h) then K () else some 3
  | 0, i, hi, m => by
    rw [heap_Check_l1, if_neg (by simp only [decide_eq_true_eq]; omega), List.drop_eq_nil_of_le (by omega)]
    simp
  | d + 1, i, hi, m => by
    have hb := hh.1
    unfold bd47 at hb
    have hlt : i < h.length := by omega
    rw [heap_Check_l1, if_pos (by simp only [decide_eq_true_eq]; omega), at_some hlt, Option.bind_some, List.drop_eq_getElem_cons hlt, List.all_cons, cell_eq _ _ (hh.2 _ (List.getElem_mem hlt)), Option.bind_some]
    cases cellB h h[i] with
    | false => rw [if_pos (by rfl), Bool.false_and, if_neg (by simp)]
    | true =>
      rw [if_neg (by simp), wi_id (by omega) (by omega), show (i : Int) + 1 = ((i + 1 : Nat) : Int) by omega, show m + (d + 1) = m + d + 1 by omega, check_l1 h hh K d (i + 1) (by omega) m, Bool.true_and]
theorem check_eq (h : List TJCell) (hh : HpOK h) : heap_Check h = some (chk h) := by
  unfold heap_Check chk large
  by_cases h1 : 300 < (h.length : Int)
  · rw [if_pos (by simpa using h1), if_pos (by simp only [h1, decide_true, Bool.true_or])]
  · rw [if_neg (by simpa using h1)]
    simp only [h1, decide_false, Bool.false_or]
    refine lim_add (h.length + 1) fun m => ?_
    refine (check_l0 h hh _ h.length 0 (by omega) m).trans ?_
    rw [List.drop_zero]
    by_cases h2 : (h.any fun c => decide (200 < (c.Vals.length : Int))) = true
    · rw [if_pos h2, if_pos h2]
    · rw [if_neg h2, if_neg h2]
      refine lim_add (h.length + 1) fun m => ?_
      refine (check_l1 h hh _ h.length 0 (by omega) m).trans ?_
      rw [List.drop_zero]
      by_cases h3 : h.all (cellB h) = true
      · rw [if_pos h3, if_pos h3]
      · rw [if_neg h3, if_neg h3]
theorem right_l4 (h : List TJCell) (hh : HpOK h) (K : Bool → Bool → Option Int) : ∀ (d i : Nat), i + d = h.length → ∀ (a b : Bool) (m : Nat), clerestoryref4_CellsRight_l4 h K (m + d + 1) a b (i : Int) = K (a || (h.drop i).any (fun c => decide (200 < (c.Vals.length : Int)))) (b && (h.drop i).all (cellB h))
  | 0, i, hi, a, b, m => by
    rw [clerestoryref4_CellsRight_l4, if_neg (by simp only [decide_eq_true_eq]; omega), List.drop_eq_nil_of_le (by omega)]
    simp
  | d + 1, i, hi, a, b, m => by
    have hb := hh.1
    unfold bd47 at hb
    have hlt : i < h.length := by omega
    have hc := hh.2 _ (List.getElem_mem hlt)
    have hj : ∀ r : Bool, clerestoryref4_CellsRight_j15 h[i] h a (i : Int) (clerestoryref4_CellsRight_l4 h K (m + d + 1)) K r = K ((a || decide (200 < (h[i].Vals.length : Int))) || (h.drop (i + 1)).any (fun c => decide (200 < (c.Vals.length : Int)))) ((r && (risB h[i].Names && h[i].Vals.all (fitB h))) && (h.drop (i + 1)).all (cellB h)) := by
      intro r
      unfold clerestoryref4_CellsRight_j15
      rw [ris_ref0 h[i] h a (i : Int) hc.1]
      refine lim_add (h[i].Vals.length + 1) fun m' => ?_
      refine (vals_ref h[i] h a (i : Int) hc.2 _ h[i].Vals.length 0 (by omega) _ m').trans ?_
      rw [List.drop_zero, wi_id (by omega) (by omega), show (i : Int) + 1 = ((i + 1 : Nat) : Int) by omega, right_l4 h hh K d (i + 1) (by omega) _ _ m]
      congr 1
      simp only [Bool.and_assoc]
    rw [show m + (d + 1) + 1 = (m + d + 1) + 1 by omega, clerestoryref4_CellsRight_l4, if_pos (by simp only [decide_eq_true_eq]; omega), at_some hlt, Option.bind_some, List.drop_eq_getElem_cons hlt, List.all_cons, List.any_cons]
    generalize hz : (h.drop (i + 1)).all (cellB h) = z at hj ⊢
    unfold cellB
    by_cases h2 : h[i].Kind = 2
    · rw [if_pos (by simpa using h2), hj, if_pos h2]
      congr 1
      · rw [Bool.or_assoc]
      · simp only [Bool.and_assoc]
    · rw [if_neg (by simpa using h2), hj, if_neg h2]
      congr 1
      · rw [Bool.or_assoc]
      · simp only [Bool.and_assoc]
theorem right_eq (h : List TJCell) (hh : HpOK h) : clerestoryref4_CellsRight h = some (chk h) := by
  unfold clerestoryref4_CellsRight chk large
  refine lim_add (h.length + 1) fun m => ?_
  refine (right_l4 h hh _ h.length 0 (by omega) _ _ m).trans ?_
  rw [List.drop_zero, Bool.true_and]
  by_cases h2 : (decide (300 < (h.length : Int)) || h.any fun c => decide (200 < (c.Vals.length : Int))) = true
  · rw [if_pos h2, if_pos h2]
  · rw [if_neg h2, if_neg h2]
    cases h.all (cellB h) <;> rfl
def ask (h : List TJCell) (v : TJVal) : Int := if chk h = 0 then (if fitB h v then 0 else 1) else chk h
theorem asked_eq (h : List TJCell) (hh : HpOK h) (v : TJVal) : heap_asked h [v] = some (ask h v) := by
  unfold heap_asked ask
  rw [check_eq h hh, Option.bind_some]
  by_cases h0 : chk h = 0
  · rw [if_neg (by simp [h0]), if_pos h0]
    refine lim_add 2 fun m => ?_
    rw [heap_asked_l0, if_pos (by simp), show at? [v] 0 = some v from rfl, Option.bind_some, fits_eq, Option.bind_some]
    cases fitB h v with
    | false => rw [if_pos (by rfl)]; rfl
    | true => rw [if_neg (by simp), if_pos rfl, show wi (0 + 1) = 1 from rfl, heap_asked_l0, if_neg (by simp)]
  · rw [if_pos (by simp [h0]), if_neg h0]
theorem hasked0_eq (h : List TJCell) (hh : HpOK h) : clerestoryref4_HeapAsked h [] = some (chk h) := by
  unfold clerestoryref4_HeapAsked
  rw [right_eq h hh, Option.bind_some]
  refine lim_add 1 fun m => ?_
  rw [clerestoryref4_HeapAsked_l0, if_neg (by simp)]
theorem hasked_eq (h : List TJCell) (hh : HpOK h) (v : TJVal) : clerestoryref4_HeapAsked h [v] = some (ask h v) := by
  unfold clerestoryref4_HeapAsked ask
  rw [right_eq h hh, Option.bind_some]
  refine lim_add 2 fun m => ?_
  have hend : ∀ (e : Int), clerestoryref4_HeapAsked_l0 [v] h (fun (e_1 : Int) => some e_1) (m + 1) e 1 = some e := by
    intro e
    rw [clerestoryref4_HeapAsked_l0, if_neg (by simp)]
  rw [clerestoryref4_HeapAsked_l0, if_pos (by simp), show at? [v] 0 = some v from rfl, Option.bind_some]
  unfold clerestoryref4_HeapAsked_j12 clerestoryref4_HeapAsked_j11
  rw [show wi (0 + 1) = 1 from rfl]
  by_cases h0 : chk h = 0
  · rw [if_pos (by simpa using h0), valueIn_eq, Option.bind_some, if_pos h0, hend, hend, h0]
    cases fitB h v <;> rfl
  · rw [if_neg (by simpa using h0), if_neg (by simp), hend, if_neg h0]
end Go.Proofs.YtoomjemboekooaaBv
