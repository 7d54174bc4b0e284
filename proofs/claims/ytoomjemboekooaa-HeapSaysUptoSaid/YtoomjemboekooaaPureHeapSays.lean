/- The law of what heaps reach, sweep and move, over plain values. No program is in sight. -/
import Derived.Test.YtoomjemboekooaaHMoveHeapSays
namespace Go.Proofs.YtoomjemboekooaaBv
open Go
set_option linter.unusedSimpArgs false
set_option linter.unusedVariables false
/-! ### the walk from many roots -/
theorem comesL (h : List TJCell) (H : HOK h) (roots : List TJVal) (hl : roots.length ≤ 2000000) : ∀ (vs pre : List TJVal) (out : List Int), roots = pre ++ vs → GoodO h.length out → (∀ v, v ∈ vs → FitV h v) →
    ∃ (out' : List Int) (a : Nat), GoodO h.length out' ∧ (∀ rest f, dfs h (f + a) (vs ++ rest) out = dfs h f rest out') ∧ ∀ m K, heap_walked_l1 roots K (m + vs.length + 1) h (tab h.length out) out (pre.length : Int) = K h (tab h.length out') out'
  | [], pre, out, hp, hg, hv => by
    refine ⟨out, 0, hg, fun rest f => rfl, fun m K => ?_⟩
    rw [heap_walked_l1, if_neg (by rw [hp]; simp)]
  | v :: vs, pre, out, hp, hg, hv => by
    obtain ⟨o1, a1, N1, g1, c1, d1, w1⟩ := come_at h H _ out hg (Nat.le_refl _) v (hv v List.mem_cons_self)
    obtain ⟨o2, a2, g2, d2, w2⟩ := comesL h H roots hl vs (pre ++ [v]) o1 (by rw [hp]; simp) g1 (fun w hw => hv w (List.mem_cons_of_mem _ hw))
    have hcome : clerestory_heap_walker_come ⟨h, tab h.length out, out⟩ v = some ⟨h, tab h.length o1, o1⟩ := by
      unfold clerestory_heap_walker_come
      exact lim_add N1 w1
    refine ⟨o2, a2 + a1, g2, fun rest f => ?_, fun m K => ?_⟩
    · rw [show f + (a2 + a1) = (f + a2) + a1 by omega, List.cons_append, d1, d2]
    · have hlt : pre.length < roots.length := by rw [hp]; simp
      have hat : at? roots (pre.length : Int) = some v := by
        rw [hp, at_nat, List.getElem?_append_right (Nat.le_refl _)]
        simp
      rw [List.length_cons, show m + (vs.length + 1) + 1 = (m + vs.length + 1) + 1 by omega, heap_walked_l1, if_pos (by simp only [decide_eq_true_eq]; omega), hat, Option.bind_some, hcome, Option.bind_some, wi_id (by omega) (by omega)]
      have := w2 m K
      simp only [List.length_append, List.length_cons, List.length_nil] at this
      rw [show ((pre.length + (0 + 1) : Nat) : Int) = (pre.length : Int) + 1 by omega] at this
      exact this
theorem walkedL (h : List TJCell) (H : HOK h) (roots : List TJVal) (hl : roots.length ≤ 2000000) (hv : ∀ v, v ∈ roots → FitV h v) : ∃ all, GoodO h.length all ∧ heap_walked h roots = some ⟨h, tab h.length all, all⟩ ∧ clerestoryref4_ReachedCells h roots = some all := by
  have hH := H.len
  obtain ⟨all, a, g, d, w⟩ := comesL h H roots hl roots [] [] rfl (good_nil _) hv
  refine ⟨all, g, ?_, ?_⟩
  · unfold heap_walked
    rw [mkl_some (by omega) (by omega) (by omega) (by omega), Option.bind_some]
    refine lim_add (h.length + 1) fun m => ?_
    have := fill_loop roots h (fun (w11 : (List Int)) => 
      lim fun kk => heap_walked_l1 roots (fun (w01 : (List TJCell)) (w13 : (List Int)) (w21 : (List Int)) => 
          some (⟨w01, w13, w21⟩ : Twalker)) kk h w11 ([] : List Int) 0) (List.replicate h.length 0) 0 (by simp; omega) m
    simp only [List.length_replicate, List.replicate_zero, List.nil_append, Nat.zero_add] at this
    rw [Int.toNat_natCast]
    simp only [List.length_replicate]
    refine this.trans ?_
    rw [tab_nil]
    exact lim_add (roots.length + 1) fun m' => w m' _
  · unfold clerestoryref4_ReachedCells
    rw [cloneJ_eq hl, Option.bind_some, reverseJ_eq _ (by omega), Option.bind_some, guard_eq (by simp)]
    refine lim_add (a + 1) fun m => ?_
    have hc := cnt_nil h.length
    refine (reach_loop h H _ (m + (a + 1)) roots [] hv (good_nil _) (by omega)).trans ?_
    have := d [] (m + 1)
    rw [List.append_nil] at this
    rw [show m + (a + 1) = (m + 1) + a by omega, this, dfs, Option.bind_some]
/-! ### what may be asked -/
theorem asked_l0 (h : List TJCell) (roots : List TJVal) (hl : roots.length ≤ 2000000) (K : Unit → Option Int) : ∀ (d i : Nat), i + d = roots.length → ∀ m, heap_asked_l0 roots h K (m + d + 1) (i : Int) = if (roots.drop i).all (fitB h) then K () else some 1
  | 0, i, hi, m => by
    rw [heap_asked_l0, if_neg (by simp only [decide_eq_true_eq]; omega), List.drop_eq_nil_of_le (by omega)]
    simp
  | d + 1, i, hi, m => by
    have hlt : i < roots.length := by omega
    rw [heap_asked_l0, if_pos (by simp only [decide_eq_true_eq]; omega), at_some hlt, Option.bind_some, List.drop_eq_getElem_cons hlt, List.all_cons, fits_eq, Option.bind_some]
    cases fitB h roots[i] with
    | false => rw [if_pos (by rfl), Bool.false_and, if_neg (by simp)]
    | true =>
      rw [if_neg (by simp), wi_id (by omega) (by omega), show (i : Int) + 1 = ((i + 1 : Nat) : Int) by omega, show m + (d + 1) = m + d + 1 by omega, asked_l0 h roots hl K d (i + 1) (by omega) m, Bool.true_and]
def askL (h : List TJCell) (roots : List TJVal) : Int := if chk h = 0 then (if roots.all (fitB h) then 0 else 1) else chk h
theorem askedL_eq (h : List TJCell) (hh : HpOK h) (roots : List TJVal) (hl : roots.length ≤ 2000000) : heap_asked h roots = some (askL h roots) := by
  unfold heap_asked askL
  rw [check_eq h hh, Option.bind_some]
  by_cases h0 : chk h = 0
  · rw [if_neg (by simp [h0]), if_pos h0]
    refine lim_add (roots.length + 1) fun m => ?_
    refine (asked_l0 h roots hl _ roots.length 0 (by omega) m).trans ?_
    rw [List.drop_zero]
    by_cases h3 : roots.all (fitB h) = true
    · rw [if_pos h3, if_pos h3]
    · rw [if_neg h3, if_neg h3]
  · rw [if_pos (by simp [h0]), if_neg h0]
theorem hasked_l0 (h : List TJCell) (roots : List TJVal) (hl : roots.length ≤ 2000000) (K : Int → Option Int) : ∀ (d i : Nat), i + d = roots.length → ∀ (e : Int) m, clerestoryref4_HeapAsked_l0 roots h K (m + d + 1) e (i : Int) = K (if e = 0 then (if (roots.drop i).all (fitB h) then 0 else 1) else e)
  | 0, i, hi, e, m => by
    rw [clerestoryref4_HeapAsked_l0, if_neg (by simp only [decide_eq_true_eq]; omega), List.drop_eq_nil_of_le (by omega)]
    by_cases h0 : e = 0
    · subst h0; rfl
    · rw [if_neg h0]
  | d + 1, i, hi, e, m => by
    have hlt : i < roots.length := by omega
    have ih := hasked_l0 h roots hl K d (i + 1) (by omega)
    rw [clerestoryref4_HeapAsked_l0, if_pos (by simp only [decide_eq_true_eq]; omega), at_some hlt, Option.bind_some, List.drop_eq_getElem_cons hlt, List.all_cons]
    unfold clerestoryref4_HeapAsked_j12 clerestoryref4_HeapAsked_j11
    rw [wi_id (by omega) (by omega), show (i : Int) + 1 = ((i + 1 : Nat) : Int) by omega, show m + (d + 1) = m + d + 1 by omega]
    by_cases h0 : e = 0
    · subst h0
      rw [if_pos (by rfl), valueIn_eq, Option.bind_some, if_pos rfl]
      cases fitB h roots[i] with
      | false => rw [if_pos (by rfl), ih]; rfl
      | true => rw [if_neg (by simp), ih, if_pos rfl, Bool.true_and]
    · rw [if_neg (by simpa using h0), if_neg (by simp), ih, if_neg h0, if_neg h0]
theorem haskedL_eq (h : List TJCell) (hh : HpOK h) (roots : List TJVal) (hl : roots.length ≤ 2000000) : clerestoryref4_HeapAsked h roots = some (askL h roots) := by
  unfold clerestoryref4_HeapAsked askL
  rw [right_eq h hh, Option.bind_some]
  exact lim_add (roots.length + 1) fun m => hasked_l0 h roots hl _ roots.length 0 (by omega) _ m
/-! ### what is swept -/
def swp (h : List TJCell) (o : List TJCell) (n : Int) : List TJCell := o.set n.toNat (h[n.toNat]?.getD ⟨0, [], []⟩)
theorem swp_len (h : List TJCell) (o : List TJCell) (n : Int) : (swp h o n).length = o.length := by simp [swp]
theorem at_len {o : List TJCell} {n : Int} (h0 : 0 ≤ n) (h1 : n < (o.length : Int)) : ∃ c, at? o n = some c := by
  have hn : n.toNat < o.length := by omega
  exact ⟨o[n.toNat], by rw [at_of h0, List.getElem?_eq_getElem hn]⟩
theorem swp_at {h o : List TJCell} {n : Int} {c : TJCell} (h0 : 0 ≤ n) (c1 : at? h n = some c) : swp h o n = o.set n.toNat c := by
  rw [at_of h0] at c1
  unfold swp
  rw [c1]; rfl
theorem sweep_loop (h : List TJCell) (H : HOK h) (all : List Int) (hg : GoodO h.length all) (t : List Int) (K : List TJCell → Option (List TJCell × Int)) : ∀ (d i : Nat), i + d = all.length → ∀ (out : List TJCell), out.length = h.length → ∀ m, heap_Sweep_l0 ⟨h, t, all⟩ h K (m + d + 1) out all (i : Int) = K ((all.drop i).foldl (swp h) out)
  | 0, i, hi, out, ho, m => by
    obtain rfl : i = all.length := by omega
    rw [heap_Sweep_l0, if_neg (by simp), List.drop_length]
    rfl
  | d + 1, i, hi, out, ho, m => by
    have hlt : i < all.length := by omega
    have hlen := hg.2
    have hH := H.len
    obtain ⟨h0, h1⟩ := hg.1 _ (List.getElem_mem hlt)
    obtain ⟨c, hc, c1, c2⟩ := at_cellF all h0 h1
    have hv := H.vals c hc
    have hn := H.names c hc
    have hcop : heap_copied c = some c := by
      unfold heap_copied
      rw [cloneS_eq (by omega), Option.bind_some, cloneJ_eq (by omega), Option.bind_some]
    obtain ⟨c', c3⟩ := at_len (o := out) h0 (by omega)
    rw [show m + (d + 1) + 1 = (m + d + 1) + 1 by omega, heap_Sweep_l0, if_pos (by simp only [decide_eq_true_eq]; omega), at_some hlt, Option.bind_some, c1, Option.bind_some, hcop, Option.bind_some, c3, Option.bind_some, wi_id (by omega) (by omega), show (i : Int) + 1 = ((i + 1 : Nat) : Int) by omega, ← swp_at h0 c1, sweep_loop h H all hg t K d (i + 1) (by omega) _ (by rw [swp_len, ho]) m, List.drop_eq_getElem_cons hlt, List.foldl_cons]
theorem want_loop (h : List TJCell) (H : HOK h) (roots : List TJVal) (all : List Int) (hg : GoodO h.length all) (r : List Int × Int) (r1 : List TJCell × Int) (r2 : List TJCell × List TJVal × Int) (K : List Int → List TJCell → List TJCell → List TJVal → List Int → List TJCell → Option Bool) (l : List Int) (s m' : List TJCell) (r7 : List TJVal) : ∀ (d i : Nat), i + d = all.length → ∀ (out : List TJCell), out.length = h.length → ∀ m, clerestorylaw4_HeapSays_l0 all h roots r r1 r2 K (m + d + 1) l s m' r7 all out (i : Int) = K l s m' r7 all ((all.drop i).foldl (swp h) out)
  | 0, i, hi, out, ho, m => by
    obtain rfl : i = all.length := by omega
    rw [clerestorylaw4_HeapSays_l0, if_neg (by simp), List.drop_length]
    rfl
  | d + 1, i, hi, out, ho, m => by
    have hlt : i < all.length := by omega
    have hlen := hg.2
    have hH := H.len
    obtain ⟨h0, h1⟩ := hg.1 _ (List.getElem_mem hlt)
    obtain ⟨c, hc, c1, c2⟩ := at_cellF all h0 h1
    obtain ⟨c', c3⟩ := at_len (o := out) h0 (by omega)
    rw [show m + (d + 1) + 1 = (m + d + 1) + 1 by omega, clerestorylaw4_HeapSays_l0, if_pos (by simp only [decide_eq_true_eq]; omega), at_some hlt, Option.bind_some, c1, Option.bind_some, c3, Option.bind_some, wi_id (by omega) (by omega), show (i : Int) + 1 = ((i + 1 : Nat) : Int) by omega, ← swp_at h0 c1, want_loop h H roots all hg r r1 r2 K l s m' r7 d (i + 1) (by omega) _ (by rw [swp_len, ho]) m, List.drop_eq_getElem_cons hlt, List.foldl_cons]
/-! ### what is equal to itself -/
theorem eqI_refl (l : List Int) (hl : l.length ≤ 2000000) : slices_Equal_int l l = some true := by
  unfold slices_Equal_int
  rw [if_neg (by simp)]
  have : ∀ (d i : Nat), i + d = l.length → ∀ m, slices_Equal_int_l0 l l (fun (_ : Unit) => some true) (m + d + 1) (i : Int) = some true := by
    intro d
    induction d with
    | zero => intro i hi m; rw [slices_Equal_int_l0, if_neg (by simp only [decide_eq_true_eq]; omega)]
    | succ d ih =>
      intro i hi m
      have h1 : i < l.length := by omega
      rw [show m + (d + 1) + 1 = (m + d + 1) + 1 by omega, slices_Equal_int_l0, if_pos (by simp only [decide_eq_true_eq]; omega), at_some h1, Option.bind_some, Option.bind_some, if_neg (by simp), wi_id (by omega) (by omega)]
      exact ih (i + 1) (by omega) m
  exact lim_add (l.length + 1) (this l.length 0 (by omega))
theorem eqS_refl (l : List (List UInt8)) (hl : l.length ≤ 2000000) : slices_Equal_string l l = some true := by
  unfold slices_Equal_string
  rw [if_neg (by simp)]
  have : ∀ (d i : Nat), i + d = l.length → ∀ m, slices_Equal_string_l0 l l (fun (_ : Unit) => some true) (m + d + 1) (i : Int) = some true := by
    intro d
    induction d with
    | zero => intro i hi m; rw [slices_Equal_string_l0, if_neg (by simp only [decide_eq_true_eq]; omega)]
    | succ d ih =>
      intro i hi m
      have h1 : i < l.length := by omega
      rw [show m + (d + 1) + 1 = (m + d + 1) + 1 by omega, slices_Equal_string_l0, if_pos (by simp only [decide_eq_true_eq]; omega), at_some h1, Option.bind_some, Option.bind_some, if_neg (by simp), wi_id (by omega) (by omega)]
      exact ih (i + 1) (by omega) m
  exact lim_add (l.length + 1) (this l.length 0 (by omega))
theorem eqV_refl (l : List TJVal) (hl : l.length ≤ 2000000) : slices_Equal_JVal l l = some true := by
  unfold slices_Equal_JVal
  rw [if_neg (by simp)]
  have : ∀ (d i : Nat), i + d = l.length → ∀ m, slices_Equal_JVal_l0 l l (fun (_ : Unit) => some true) (m + d + 1) (i : Int) = some true := by
    intro d
    induction d with
    | zero => intro i hi m; rw [slices_Equal_JVal_l0, if_neg (by simp only [decide_eq_true_eq]; omega)]
    | succ d ih =>
      intro i hi m
      have h1 : i < l.length := by omega
      rw [show m + (d + 1) + 1 = (m + d + 1) + 1 by omega, slices_Equal_JVal_l0, if_pos (by simp only [decide_eq_true_eq]; omega), at_some h1, Option.bind_some, Option.bind_some, letIn_eq, if_neg (by simp), wi_id (by omega) (by omega)]
      exact ih (i + 1) (by omega) m
  exact lim_add (l.length + 1) (this l.length 0 (by omega))
def CellSm (c : TJCell) : Prop := c.Names.length ≤ 2000000 ∧ c.Vals.length ≤ 2000000
theorem same_refl (c : TJCell) (hc : CellSm c) : clerestoryref4_SameCells_fn1 c c = some true := by
  unfold clerestoryref4_SameCells_fn1 clerestoryref4_SameCells_fn1_j1
  rw [if_pos (by simp), eqS_refl _ hc.1, Option.bind_some, if_pos rfl, eqV_refl _ hc.2, Option.bind_some]
theorem sameC_refl (l : List TJCell) (hl : l.length ≤ 2000000) (hc : ∀ c, c ∈ l → CellSm c) : clerestoryref4_SameCells l l = some true := by
  have key : slices_EqualFunc_JCell l l = some true := by
    unfold slices_EqualFunc_JCell
    rw [if_neg (by simp)]
    have : ∀ (d i : Nat), i + d = l.length → ∀ m, slices_EqualFunc_JCell_l0 l l (fun (_ : Unit) => some true) (m + d + 1) (i : Int) = some true := by
      intro d
      induction d with
      | zero => intro i hi m; rw [slices_EqualFunc_JCell_l0, if_neg (by simp only [decide_eq_true_eq]; omega)]
      | succ d ih =>
        intro i hi m
        have h1 : i < l.length := by omega
        rw [show m + (d + 1) + 1 = (m + d + 1) + 1 by omega, slices_EqualFunc_JCell_l0, if_pos (by simp only [decide_eq_true_eq]; omega), at_some h1, Option.bind_some, Option.bind_some, same_refl _ (hc _ (List.getElem_mem h1)), Option.bind_some, if_neg (by simp), wi_id (by omega) (by omega)]
        exact ih (i + 1) (by omega) m
    exact lim_add (l.length + 1) (this l.length 0 (by omega))
  unfold clerestoryref4_SameCells
  rw [key, Option.bind_some]
/-! ### the law -/
theorem small_of (h : List TJCell) (H : HOK h) {c : TJCell} (hc : c ∈ h) : CellSm c := by
  have hv := H.vals c hc
  have hn := H.names c hc
  exact ⟨by omega, by omega⟩
theorem swp_small (h : List TJCell) (H : HOK h) : ∀ (all : List Int) (o : List TJCell), (∀ c, c ∈ o → CellSm c) → ∀ c, c ∈ all.foldl (swp h) o → CellSm c
  | [], o, ho, c, hc => ho c hc
  | n :: all, o, ho, c, hc => by
    refine swp_small h H all (swp h o n) (fun c hc => ?_) c hc
    unfold swp at hc
    rcases List.mem_or_eq_of_mem_set hc with hc | rfl
    · exact ho c hc
    · cases hx : h[n.toNat]? with
      | none => exact ⟨by simp, by simp⟩
      | some c => exact small_of h H (List.mem_of_getElem? hx)
theorem swp_all_len (h : List TJCell) : ∀ (all : List Int) (o : List TJCell), (all.foldl (swp h) o).length = o.length
  | [], o => rfl
  | n :: all, o => by rw [List.foldl_cons, swp_all_len h all, swp_len]
theorem law_eq (h : List TJCell) (roots : List TJVal) (hh : HpOK h) (hl : roots.length ≤ 2000000) : clerestorylaw4_HeapSays h roots = some true := by
  unfold clerestorylaw4_HeapSays
  by_cases ha : askL h roots = 0
  · have ha2 := ha
    unfold askL at ha2
    have hc : chk h = 0 := by
      by_cases hc : chk h = 0
      · exact hc
      · rw [if_neg hc] at ha2; exact ha2
    have hf : roots.all (fitB h) = true := by
      rw [if_pos hc] at ha2
      cases hx : roots.all (fitB h) with
      | true => rfl
      | false => rw [hx] at ha2; simp at ha2
    have H := chk_ok hc
    have hH := H.len
    have hfv : ∀ v, v ∈ roots → FitV h v := fun v hv => fitB_fit (List.all_eq_true.1 hf v hv)
    obtain ⟨all, hg, w1, w2⟩ := walkedL h H roots hl hfv
    have hlen := hg.2
    have eR : heap_Reach h roots = some (sortI all, 0) := by
      unfold heap_Reach
      rw [askedL_eq h hh roots hl, Option.bind_some, ha, if_neg (by decide), w1, Option.bind_some, show slices_Sort_int all = some (sortI all) from sort_some (by omega), Option.bind_some]
      exact guard_eq (a := all) (b := sortI all) (List.length_mergeSort _).symm _
    have hmk : mkl? 56 (h.length : Int) (h.length : Int) ((⟨0, [], []⟩ : TJCell) : TJCell) = some (List.replicate h.length ⟨0, [], []⟩) := by
      rw [mkl_some (by omega) (by omega) (by omega) (by omega), Int.toNat_natCast]
    have eS : heap_Sweep h roots = some (all.foldl (swp h) (List.replicate h.length ⟨0, [], []⟩), 0) := by
      unfold heap_Sweep
      rw [askedL_eq h hh roots hl, Option.bind_some, ha, if_neg (by decide), w1, Option.bind_some, hmk, Option.bind_some]
      exact lim_add (all.length + 1) fun m => sweep_loop h H all hg _ _ all.length 0 (by omega) _ (by simp) m
    have eM : heap_Move h roots = some (all.map (cellF h all), roots.map (mvF all), 0) := by
      unfold heap_Move
      rw [askedL_eq h hh roots hl, Option.bind_some, ha, if_neg (by decide), w1, Option.bind_some]
      refine lim_add (all.length + 1) fun m => ?_
      refine (move_loop h H all hg roots _ all.length 0 (by omega) m).trans ?_
      rw [moved_eq h all roots hl hfv, Option.bind_some]
    have eC : clerestoryref4_MovedCells h roots = some (all.map (cellF h all), roots.map (mvF all)) := by
      unfold clerestoryref4_MovedCells
      rw [w2, Option.bind_some]
      refine lim_add (all.length + 1) fun m => ?_
      refine (mcell_loop h H all hg roots _ all.length 0 (by omega) m).trans ?_
      rw [renum_eq roots all hl (by omega), Option.bind_some]
    rw [eR, Option.bind_some, eS, Option.bind_some, eM, Option.bind_some, check_eq h hh, Option.bind_some, right_eq h hh, Option.bind_some, if_neg (by simp), haskedL_eq h hh roots hl, Option.bind_some, if_neg (by simp [ha]), w2, Option.bind_some, hmk, Option.bind_some]
    refine lim_add (all.length + 1) fun m => ?_
    refine (want_loop h H roots all hg _ _ _ _ _ _ _ _ all.length 0 (by omega) _ (by simp) m).trans ?_
    have hs1 : (all.foldl (swp h) (List.replicate h.length ⟨0, [], []⟩)).length ≤ 2000000 := by rw [swp_all_len]; simp; omega
    have hs2 : ∀ c, c ∈ all.foldl (swp h) (List.replicate h.length ⟨0, [], []⟩) → CellSm c := swp_small h H all _ fun c hc => by
      rw [List.eq_of_mem_replicate hc]; exact ⟨by simp, by simp⟩
    have hm2 : ∀ c, c ∈ all.map (cellF h all) → CellSm c := fun c hcm => by
      obtain ⟨n, hn, rfl⟩ := List.mem_map.1 hcm
      obtain ⟨h0, h1⟩ := hg.1 n hn
      obtain ⟨c, hc, c1, c2⟩ := at_cellF all h0 h1
      have := small_of h H hc
      rw [c2]
      exact ⟨this.1, by rw [List.length_map]; exact this.2⟩
    rw [List.drop_zero, eC, Option.bind_some, show slices_Sorted_int all = some (sortI all) from sorted_some (by omega), Option.bind_some, eqI_refl _ (by unfold sortI; rw [List.length_mergeSort]; omega), Option.bind_some, if_pos (by simp), sameC_refl _ hs1 hs2, Option.bind_some, if_pos (by simp), sameC_refl _ (by simp; omega) hm2, Option.bind_some, if_pos rfl, eqV_refl _ (by simpa using hl), Option.bind_some]
    unfold clerestorylaw4_HeapSays_j1
    simp
  · have e1 : heap_Reach h roots = some ([], askL h roots) := by
      unfold heap_Reach
      rw [askedL_eq h hh roots hl, Option.bind_some, if_pos (by simp [ha])]
    have e2 : heap_Sweep h roots = some ([], askL h roots) := by
      unfold heap_Sweep
      rw [askedL_eq h hh roots hl, Option.bind_some, if_pos (by simp [ha])]
    have e3 : heap_Move h roots = some ([], [], askL h roots) := by
      unfold heap_Move
      rw [askedL_eq h hh roots hl, Option.bind_some, if_pos (by simp [ha])]
    rw [e1, Option.bind_some, e2, Option.bind_some, e3, Option.bind_some, check_eq h hh, Option.bind_some, right_eq h hh, Option.bind_some, if_neg (by simp), haskedL_eq h hh roots hl, Option.bind_some, if_pos (by simp [ha])]
    simp
theorem heapOK_of {h : List TJCell} (hk : ok52 h) : HpOK h := by
  obtain ⟨h1, h2⟩ := hk
  refine ⟨?_, fun c hc => ?_⟩
  · unfold reachBytes at h1; unfold bd47; omega
  · obtain ⟨_, ⟨k1, _⟩, ⟨k2, _⟩⟩ := h2 c hc
    unfold reachBytes at k1 k2
    exact ⟨by unfold bd47; omega, by unfold bd47; omega⟩
theorem len_bulk (l : List TJVal) : l.length ≤ bulkE (l.map e_TJVal) := by
  induction l with
  | nil => simp [bulkE]
  | cons v l ih =>
    rw [List.map_cons, bulkE, List.length_cons]
    have : 1 ≤ bulkL (e_TJVal v) := by
      simp only [e_TJVal, bulkL, bulkC]
      omega
    omega
theorem pureHeapSays : PureHeapSays := by
  intro h roots hh hr hb
  refine law_eq h roots (heapOK_of hh) ?_
  have := len_bulk roots
  simp only [bulkVs, bulkV, bulkC] at hb
  omega
end Go.Proofs.YtoomjemboekooaaBv
