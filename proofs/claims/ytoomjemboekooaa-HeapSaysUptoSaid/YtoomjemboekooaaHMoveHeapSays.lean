/- Moves of a heap: the program's walk and the document's stack come to the same cells. No program is in sight. -/
import Derived.Test.YtoomjemboekooaaHCheckHeapSays
namespace Go.Proofs.YtoomjemboekooaaBv
open Go
set_option linter.unusedSimpArgs false
set_option linter.unusedVariables false
theorem at_midI {α : Type} (A B : List α) (x : α) (i : Int) (h : i = (A.length : Int)) : at? (A ++ x :: B) i = some x := by subst h; rw [at_nat]; simp
theorem set_midI {α : Type} (A B : List α) (x y : α) (i : Nat) (h : i = A.length) : (A ++ x :: B).set i y = A ++ y :: B := by subst h; simp
theorem rev_loopJ (K : List TJVal → Option (List TJVal)) : ∀ (N : Nat) (P M S : List TJVal), M.length ≤ N → P.length + M.length < 4611686018427387904 → ∀ m,
    slices_Reverse_JVal_l0 K (m + N + 1) (P ++ M ++ S) (P.length : Int) ((P.length : Int) + (M.length : Int) - 1) = K (P ++ M.reverse ++ S)
  | N, P, [], S, _, _, m => by
    rw [slices_Reverse_JVal_l0, if_neg (by simp; omega)]
    simp
  | N, P, [x], S, _, _, m => by
    rw [slices_Reverse_JVal_l0, if_neg (by simp)]
    simp
  | 0, P, x :: y :: M, S, h, _, m => by simp at h
  | N + 1, P, x :: y :: M0, S, h, hl, m => by
    obtain ⟨M, z, e⟩ : ∃ M z, y :: M0 = M ++ [z] := ⟨(y :: M0).dropLast, (y :: M0).getLast (by simp), (List.dropLast_concat_getLast (by simp)).symm⟩
    have hlen : (y :: M0).length = M.length + 1 := by rw [e]; simp
    simp only [List.length_cons] at h hl hlen
    rw [e]
    have e1 : P ++ (x :: (M ++ [z])) ++ S = P ++ x :: (M ++ z :: S) := by simp
    have e2 : P ++ x :: (M ++ z :: S) = (P ++ x :: M) ++ z :: S := by simp
    have l2 : (P ++ x :: M).length = P.length + M.length + 1 := by simp; omega
    rw [slices_Reverse_JVal_l0, if_pos (by simp only [decide_eq_true_eq, List.length_cons, List.length_append, List.length_nil]; omega), e1]
    have a1 : at? (P ++ x :: (M ++ z :: S)) ((P.length : Int) + ((x :: (M ++ [z])).length : Int) - 1) = some z := by rw [e2]; exact at_midI _ _ _ _ (by simp; omega)
    have a2 : at? (P ++ x :: (M ++ z :: S)) (P.length : Int) = some x := at_midI _ _ _ _ rfl
    have a3 : (P ++ x :: (M ++ z :: S)).set ((P.length : Int)).toNat z = P ++ z :: (M ++ z :: S) := set_midI _ _ _ _ _ (by simp)
    have a4 : at? (P ++ z :: (M ++ z :: S)) ((P.length : Int) + ((x :: (M ++ [z])).length : Int) - 1) = some z := by
      rw [show P ++ z :: (M ++ z :: S) = (P ++ z :: M) ++ z :: S by simp]; exact at_midI _ _ _ _ (by simp; omega)
    have a5 : (P ++ z :: (M ++ z :: S)).set ((P.length : Int) + ((x :: (M ++ [z])).length : Int) - 1).toNat x = (P ++ [z]) ++ M ++ (x :: S) := by
      rw [show P ++ z :: (M ++ z :: S) = (P ++ z :: M) ++ z :: S by simp, set_midI _ _ _ _ _ (by simp; omega)]
      simp
    rw [a1, a2, Option.bind_some, Option.bind_some, Option.bind_some, a3, a4, Option.bind_some, a5, wi_id (by omega) (by omega), wi_id (by simp; omega) (by simp; omega)]
    have ih := rev_loopJ K N (P ++ [z]) M (x :: S) (by omega) (by simp; omega) m
    rw [show ((P ++ [z]).length : Int) = (P.length : Int) + 1 by simp] at ih
    rw [show (P.length : Int) + ((x :: (M ++ [z])).length : Int) - 1 - 1 = (P.length : Int) + 1 + (M.length : Int) - 1 by simp; omega, show m + (N + 1) = m + N + 1 by omega, ih]
    simp
theorem reverseJ_eq (l : List TJVal) (h : l.length < 4611686018427387904) : slices_Reverse_JVal l = some l.reverse := by
  unfold slices_Reverse_JVal
  refine lim_add (l.length + 1) fun m => ?_
  have := rev_loopJ (fun s_2 => some s_2) l.length [] l [] (Nat.le_refl _) (by simpa using h) m
  simp only [List.nil_append, List.append_nil, List.length_nil] at this
  rw [wi_id (by omega) (by omega)]
  rw [show ((0 : Nat) : Int) + (l.length : Int) - 1 = (l.length : Int) - 1 by omega] at this
  exact this
/-! ### places -/
def ixF : List Int → Int → Nat → Int
  | [], _, _ => -1
  | x :: r, n, i => if n = x then (i : Int) else ixF r n (i + 1)
theorem ixF_mem : ∀ (l : List Int) (n : Int) (i : Nat), 0 ≤ ixF l n i ↔ n ∈ l
  | [], n, i => by simp [ixF]
  | x :: r, n, i => by
    rw [ixF, List.mem_cons]
    by_cases h : n = x
    · rw [if_pos h]; exact ⟨fun _ => Or.inl h, fun _ => by omega⟩
    · rw [if_neg h, ixF_mem r n (i + 1)]
      exact ⟨Or.inr, fun h' => h'.resolve_left h⟩
theorem ixF_new : ∀ (l : List Int) (n : Int) (i : Nat), n ∉ l → ixF (l ++ [n]) n i = ((i + l.length : Nat) : Int)
  | [], n, i, _ => by simp [ixF]
  | x :: r, n, i, h => by
    rw [List.mem_cons, not_or] at h
    rw [List.cons_append, ixF, if_neg h.1, ixF_new r n (i + 1) h.2, List.length_cons]
    omega
theorem ixF_old : ∀ (l : List Int) (n x : Int) (i : Nat), n ≠ x → ixF (l ++ [x]) n i = ixF l n i
  | [], n, x, i, h => by simp [ixF, h]
  | y :: r, n, x, i, h => by
    rw [List.cons_append, ixF, ixF, ixF_old r n x (i + 1) h]
theorem idx_loop (s : List Int) (v : Int) (hl : s.length ≤ 1000000) : ∀ (d i : Nat), i + d = s.length → ∀ m, slices_Index_int_l0 s v (fun _ => some (-1)) (m + d + 1) (i : Int) = some (ixF (s.drop i) v i)
  | 0, i, hi, m => by
    rw [slices_Index_int_l0, if_neg (by simp only [decide_eq_true_eq]; omega), List.drop_eq_nil_of_le (by omega), ixF]
  | d + 1, i, hi, m => by
    have h : i < s.length := by omega
    rw [slices_Index_int_l0, if_pos (by simp only [decide_eq_true_eq]; omega), at_some h, Option.bind_some, List.drop_eq_getElem_cons h, ixF]
    by_cases hv : v = s[i]
    · rw [if_pos (by simpa using hv), if_pos hv]
    · rw [if_neg (by simpa using hv), if_neg hv, wi_id (by omega) (by omega), show (i : Int) + 1 = ((i + 1 : Nat) : Int) by omega]
      exact idx_loop s v hl d (i + 1) (by omega) m
theorem index_eq (s : List Int) (v : Int) (hl : s.length ≤ 1000000) : slices_Index_int s v = some (ixF s v 0) := by
  unfold slices_Index_int
  exact lim_add (s.length + 1) fun m => idx_loop s v hl s.length 0 (by omega) m
theorem containsI_eq (s : List Int) (v : Int) (hl : s.length ≤ 1000000) : slices_Contains_int s v = some (decide (v ∈ s)) := by
  unfold slices_Contains_int
  rw [index_eq s v hl, Option.bind_some]
  congr 1
  rw [Bool.eq_iff_iff, decide_eq_true_iff, decide_eq_true_iff]
  exact ixF_mem s v 0
def tab (n : Nat) (all : List Int) : List Int := (List.range n).map fun (j : Nat) => ixF all (j : Int) 0
theorem tab_len (n : Nat) (all : List Int) : (tab n all).length = n := by simp [tab]
theorem tab_at {n : Nat} {k : Int} (all : List Int) (h0 : 0 ≤ k) (h1 : k < (n : Int)) : at? (tab n all) k = some (ixF all k 0) := by
  have hk : k.toNat < n := by omega
  rw [at_of h0]
  unfold tab
  rw [List.getElem?_map, List.getElem?_range hk, Option.map_some, Int.toNat_of_nonneg h0]
theorem tab_set {n : Nat} {k : Int} {all : List Int} (h0 : 0 ≤ k) (h1 : k < (n : Int)) (hk : k ∉ all) : (tab n all).set k.toNat (all.length : Int) = tab n (all ++ [k]) := by
  apply List.ext_getElem (by simp [tab])
  intro j h2 h3
  rw [List.getElem_set]
  simp only [tab, List.getElem_map, List.getElem_range]
  by_cases he : k.toNat = j
  · rw [if_pos he]
    have : (j : Int) = k := by omega
    rw [this, ixF_new all k 0 hk]
    simp
  · rw [if_neg he, ixF_old all _ _ 0 (by omega)]
def cnt (n : Nat) (all : List Int) : Nat := (List.range n).countP fun (j : Nat) => !decide ((j : Int) ∈ all)
theorem countP_lt {p q : Nat → Bool} (hpq : ∀ x, q x = true → p x = true) {y : Nat} (hp : p y = true) (hq : q y = false) : ∀ (l : List Nat), y ∈ l → l.countP q < l.countP p
  | [], h => by simp at h
  | x :: r, h => by
    have hmono : r.countP q ≤ r.countP p := List.countP_mono_left fun z _ hz => hpq z hz
    rw [List.countP_cons, List.countP_cons]
    rcases List.mem_cons.1 h with h | h
    · subst h
      rw [hp, hq]
      simp
      omega
    · have ih := countP_lt hpq hp hq r h
      by_cases hx : q x = true
      · rw [hx, hpq x hx]; omega
      · rw [if_neg hx]
        split <;> omega
theorem cnt_lt {n : Nat} {k : Int} {all : List Int} (h0 : 0 ≤ k) (h1 : k < (n : Int)) (hk : k ∉ all) : cnt n (all ++ [k]) < cnt n all := by
  unfold cnt
  refine countP_lt (y := k.toNat) (fun x hx => ?_) ?_ ?_ _ (List.mem_range.2 (by omega))
  · simp only [Bool.not_eq_true', decide_eq_false_iff_not, List.mem_append, not_or] at hx ⊢
    exact hx.1
  · simp only [Bool.not_eq_true', decide_eq_false_iff_not]
    rw [Int.toNat_of_nonneg h0]; exact hk
  · simp only [Bool.not_eq_false', decide_eq_true_eq]
    rw [Int.toNat_of_nonneg h0]; simp
theorem cnt_nil (n : Nat) : cnt n [] ≤ n := by
  unfold cnt
  exact Nat.le_trans List.countP_le_length (by simp)
def GoodO (n : Nat) (all : List Int) : Prop := (∀ x, x ∈ all → 0 ≤ x ∧ x < (n : Int)) ∧ all.length + cnt n all ≤ n
theorem good_nil (n : Nat) : GoodO n [] := ⟨by simp, by simpa only [List.length_nil, Nat.zero_add] using cnt_nil n⟩
theorem good_snoc {n : Nat} {k : Int} {all : List Int} (h : GoodO n all) (h0 : 0 ≤ k) (h1 : k < (n : Int)) (hk : k ∉ all) : GoodO n (all ++ [k]) := by
  refine ⟨fun x hx => ?_, ?_⟩
  · rcases List.mem_append.1 hx with hx | hx
    · exact h.1 x hx
    · simp at hx; subst hx; exact ⟨h0, h1⟩
  · have := cnt_lt h0 h1 hk
    have := h.2
    simp only [List.length_append, List.length_cons, List.length_nil]
    omega
/-! ### a heap that is right -/
def FitV (h : List TJCell) (v : TJVal) : Prop := v.Kind = 4 → 0 ≤ v.N ∧ v.N < (h.length : Int)
theorem fitB_fit {h : List TJCell} {v : TJVal} (hf : fitB h v = true) : FitV h v := by
  intro h4
  unfold fitB at hf
  rw [Bool.and_eq_true] at hf
  refine ⟨right_ref hf.1 h4, ?_⟩
  have := hf.2
  rw [h4] at this
  simp at this
  exact this.1
structure HOK (h : List TJCell) : Prop where
  len : h.length ≤ 300
  vals : ∀ c, c ∈ h → c.Vals.length ≤ 200
  names : ∀ c, c ∈ h → c.Names.length ≤ 200
  fit : ∀ c, c ∈ h → ∀ v, v ∈ c.Vals → FitV h v
theorem chk_ok {h : List TJCell} (h0 : chk h = 0) : HOK h := by
  unfold chk at h0
  have hl : large h = false := by
    cases hx : large h with
    | true => rw [hx] at h0; simp at h0
    | false => rfl
  rw [hl, if_neg (by simp)] at h0
  have ha : h.all (cellB h) = true := by
    cases hx : h.all (cellB h) with
    | false => rw [hx] at h0; simp at h0
    | true => rfl
  unfold large at hl
  rw [Bool.or_eq_false_iff] at hl
  have hv : ∀ c, c ∈ h → c.Vals.length ≤ 200 := by
    intro c hc
    have := List.any_eq_false.1 hl.2 c hc
    simp only [decide_eq_true_eq] at this
    omega
  refine ⟨?_, hv, ?_, ?_⟩
  · have := hl.1
    simp only [decide_eq_false_iff_not] at this
    omega
  · intro c hc
    have h1 := List.all_eq_true.1 ha c hc
    unfold cellB at h1
    rw [Bool.and_eq_true, Bool.and_eq_true] at h1
    have h2 := h1.1.2
    have h3 := hv c hc
    split at h2
    · simp only [decide_eq_true_eq] at h2; omega
    · simp only [decide_eq_true_eq] at h2; omega
  · intro c hc v hvm
    have h1 := List.all_eq_true.1 ha c hc
    unfold cellB at h1
    rw [Bool.and_eq_true] at h1
    have h2 := h1.2
    rw [Bool.and_eq_true] at h2
    exact fitB_fit (List.all_eq_true.1 h2.2 v hvm)
def kidsAt (h : List TJCell) (n : Int) : List TJVal := match h[n.toNat]? with
  | some c => c.Vals
  | none => []
def dfs (h : List TJCell) : Nat → List TJVal → List Int → Option (List Int)
  | 0, _, _ => none
  | f + 1, [], out => some out
  | f + 1, v :: st, out => if v.Kind = 4 ∧ v.N ∉ out then dfs h f (kidsAt h v.N ++ st) (out ++ [v.N]) else dfs h f st out
theorem at_cell {h : List TJCell} {n : Int} (h0 : 0 ≤ n) (h1 : n < (h.length : Int)) : ∃ c, c ∈ h ∧ at? h n = some c ∧ kidsAt h n = c.Vals := by
  have hn : n.toNat < h.length := by omega
  refine ⟨h[n.toNat], List.getElem_mem hn, ?_, ?_⟩
  · rw [at_of h0, List.getElem?_eq_getElem hn]
  · unfold kidsAt; rw [List.getElem?_eq_getElem hn]
theorem cloneJ_eq {l : List TJVal} (hl : l.length ≤ 2000000) : slices_Clone_JVal l = some l := by
  unfold slices_Clone_JVal
  rw [appq (by simp; omega), Option.bind_some, List.nil_append]
theorem cloneS_eq {l : List (List UInt8)} (hl : l.length ≤ 1000000) : slices_Clone_string l = some l := by
  unfold slices_Clone_string
  rw [appq (by simp; omega), Option.bind_some, List.nil_append]
theorem guard_eq {α β : Type} {a b : List α} (h : a.length = b.length) (o : Option β) : guardLen a b o = o := if_pos h
theorem reach_loop (h : List TJCell) (H : HOK h) (K : List Int → Option (List Int)) : ∀ (f : Nat) (st : List TJVal) (out : List Int), (∀ v, v ∈ st → FitV h v) → GoodO h.length out → st.length + 200 * cnt h.length out ≤ 3000000 → clerestoryref4_ReachedCells_l0 h K f st.reverse out = (dfs h f st out).bind K
  | 0, st, out, _, _, _ => rfl
  | f + 1, [], out, _, _, _ => by
    rw [List.reverse_nil, clerestoryref4_ReachedCells_l0, if_neg (by simp), dfs, Option.bind_some]
  | f + 1, v :: st, out, hst, hg, hb => by
    have hlen := hg.2
    have hH := H.len
    simp only [List.length_cons] at hb
    have hl : (st.reverse ++ [v]).length = st.length + 1 := by simp
    rw [List.reverse_cons, clerestoryref4_ReachedCells_l0, hl, if_pos (by simp only [decide_eq_true_eq]; omega), wi_id (by omega) (by omega), show ((st.length + 1 : Nat) : Int) - 1 = (st.length : Int) by omega]
    have e1 : at? (st.reverse ++ [v]) (st.length : Int) = some v := by
      rw [at_nat, show st.length = st.reverse.length by simp, List.getElem?_append_right (Nat.le_refl _)]
      simp
    have e2 : sub? (st.reverse ++ [v]) 0 (st.length : Int) = some st.reverse := by
      rw [sub_take (by omega)]
      congr 1
      rw [show st.length = st.reverse.length by simp, List.take_left]
    rw [e1, Option.bind_some, e2, Option.bind_some, dfs]
    have hst2 : ∀ w, w ∈ st → FitV h w := fun w hw => hst w (List.mem_cons_of_mem _ hw)
    unfold clerestoryref4_ReachedCells_j3
    by_cases h4 : v.Kind = 4
    · rw [if_neg (by simp [h4]), containsI_eq out v.N (by omega), Option.bind_some]
      by_cases hm : v.N ∈ out
      · rw [if_pos (by simpa using hm), if_neg (by rintro ⟨_, h⟩; exact h hm)]
        exact reach_loop h H K f st out hst2 hg (by omega)
      · obtain ⟨h0, h1⟩ := hst v List.mem_cons_self h4
        obtain ⟨c, hc, c1, c2⟩ := at_cell h0 h1
        have hv := H.vals c hc
        have hcn := cnt_lt h0 h1 hm
        rw [if_neg (by simpa using hm), if_pos ⟨h4, hm⟩, appq (by simp; omega), Option.bind_some, c1, Option.bind_some, cloneJ_eq (by omega), Option.bind_some, reverseJ_eq _ (by omega), Option.bind_some, guard_eq (by simp), appq (by simp; omega), Option.bind_some, c2, ← List.reverse_append]
        refine reach_loop h H K f (c.Vals ++ st) (out ++ [v.N]) (fun w hw => ?_) (good_snoc hg h0 h1 hm) (by rw [List.length_append]; omega)
        rcases List.mem_append.1 hw with hw | hw
        · exact H.fit c hc w hw
        · exact hst2 w hw
    · rw [if_pos (by simpa using h4), if_pos rfl, if_neg (by rintro ⟨h, _⟩; exact h4 h)]
      exact reach_loop h H K f st out hst2 hg (by omega)
def ComeAt (h : List TJCell) (μ : Nat) : Prop := ∀ (out : List Int), GoodO h.length out → cnt h.length out ≤ μ → ∀ v, FitV h v → ∃ (out' : List Int) (a N : Nat), GoodO h.length out' ∧ cnt h.length out' ≤ cnt h.length out ∧ (∀ rest f, dfs h (f + a) (v :: rest) out = dfs h f rest out') ∧ ∀ k, clerestory_heap_walker_come_r (k + N) ⟨h, tab h.length out, out⟩ v = some ⟨h, tab h.length out', out'⟩
theorem comes (h : List TJCell) (H : HOK h) (μ : Nat) (ih : ComeAt h μ) (x : TJCell) (hx : x.Vals.length ≤ 200) : ∀ (vs pre : List TJVal) (out : List Int), x.Vals = pre ++ vs → GoodO h.length out → cnt h.length out ≤ μ → (∀ v, v ∈ vs → FitV h v) → ∃ (out' : List Int) (a N : Nat), GoodO h.length out' ∧ cnt h.length out' ≤ cnt h.length out ∧ (∀ rest f, dfs h (f + a) (vs ++ rest) out = dfs h f rest out') ∧ ∀ k m K, clerestory_heap_walker_come_l0 x (clerestory_heap_walker_come_r (k + N)) K (m + vs.length + 1) h (tab h.length out) out (pre.length : Int) = K h (tab h.length out') out'
  | [], pre, out, hp, hg, hc, hv => by
    refine ⟨out, 0, 0, hg, Nat.le_refl _, fun rest f => rfl, fun k m K => ?_⟩
    rw [clerestory_heap_walker_come_l0, if_neg (by rw [hp]; simp)]
  | v :: vs, pre, out, hp, hg, hc, hv => by
    obtain ⟨o1, a1, N1, g1, c1, d1, w1⟩ := ih out hg hc v (hv v List.mem_cons_self)
    obtain ⟨o2, a2, N2, g2, c2, d2, w2⟩ := comes h H μ ih x hx vs (pre ++ [v]) o1 (by rw [hp]; simp) g1 (by omega) (fun w hw => hv w (List.mem_cons_of_mem _ hw))
    refine ⟨o2, a2 + a1, N2 + N1, g2, by omega, fun rest f => ?_, fun k m K => ?_⟩
    · rw [show f + (a2 + a1) = (f + a2) + a1 by omega, List.cons_append, d1, d2]
    · have hlt : pre.length < x.Vals.length := by rw [hp]; simp
      have hat : at? x.Vals (pre.length : Int) = some v := by
        rw [hp, at_nat, List.getElem?_append_right (Nat.le_refl _)]
        simp
      rw [List.length_cons, show m + (vs.length + 1) + 1 = (m + vs.length + 1) + 1 by omega, clerestory_heap_walker_come_l0, if_pos (by simp only [decide_eq_true_eq]; omega), hat, Option.bind_some, show k + (N2 + N1) = (k + N2) + N1 by omega, w1 (k + N2), Option.bind_some, wi_id (by omega) (by omega)]
      have := w2 (k + N1) m K
      rw [show k + N1 + N2 = k + N2 + N1 by omega] at this
      simp only [List.length_append, List.length_cons, List.length_nil] at this
      rw [show ((pre.length + (0 + 1) : Nat) : Int) = (pre.length : Int) + 1 by omega] at this
      exact this
theorem come_stay (h : List TJCell) (out : List Int) (hg : GoodO h.length out) (v : TJVal) (hv : FitV h v) (hn : ¬ (v.Kind = 4 ∧ v.N ∉ out)) : ∃ (out' : List Int) (a N : Nat), GoodO h.length out' ∧ cnt h.length out' ≤ cnt h.length out ∧ (∀ rest f, dfs h (f + a) (v :: rest) out = dfs h f rest out') ∧ ∀ k, clerestory_heap_walker_come_r (k + N) ⟨h, tab h.length out, out⟩ v = some ⟨h, tab h.length out', out'⟩ := by
  refine ⟨out, 1, 1, hg, Nat.le_refl _, fun rest f => ?_, fun k => ?_⟩
  · rw [dfs, if_neg hn]
  · rw [clerestory_heap_walker_come_r]
    unfold clerestory_heap_walker_come_j1
    by_cases h4 : v.Kind = 4
    · obtain ⟨h0, h1⟩ := hv h4
      have hr : heap_ref v = v.N := by unfold heap_ref; rw [if_pos (by simpa using h4)]
      have hm : v.N ∈ out := by
        by_cases hm : v.N ∈ out
        · exact hm
        · exact absurd ⟨h4, hm⟩ hn
      rw [hr, if_neg (by simp only [decide_eq_true_eq]; omega), tab_at out h0 h1, Option.bind_some, if_pos (by simpa using (ixF_mem out v.N 0).2 hm)]
    · have hr : heap_ref v = -1 := by unfold heap_ref; rw [if_neg (by simpa using h4)]
      rw [hr, if_pos (by decide), if_pos rfl]
theorem come_at (h : List TJCell) (H : HOK h) : ∀ μ, ComeAt h μ
  | 0, out, hg, hc, v, hv => by
    refine come_stay h out hg v hv ?_
    rintro ⟨h4, hm⟩
    obtain ⟨h0, h1⟩ := hv h4
    have := cnt_lt h0 h1 hm
    omega
  | μ + 1, out, hg, hc, v, hv => by
    by_cases hn : v.Kind = 4 ∧ v.N ∉ out
    · obtain ⟨h4, hm⟩ := hn
      obtain ⟨h0, h1⟩ := hv h4
      have hcn := cnt_lt h0 h1 hm
      obtain ⟨c, hcm, c1, c2⟩ := at_cell h0 h1
      have hlen := hg.2
      have hH := H.len
      obtain ⟨o', a, N, g', cc, d', w'⟩ := comes h H μ (come_at h H μ) c (H.vals c hcm) c.Vals [] (out ++ [v.N]) rfl (good_snoc hg h0 h1 hm) (by omega) (H.fit c hcm)
      refine ⟨o', a + 1, N + 1, g', by omega, fun rest f => ?_, fun k => ?_⟩
      · rw [show f + (a + 1) = (f + a) + 1 by omega, dfs, if_pos ⟨h4, hm⟩, c2, d']
      · have hr : heap_ref v = v.N := by unfold heap_ref; rw [if_pos (by simpa using h4)]
        have hix : ¬ 0 ≤ ixF out v.N 0 := by rw [ixF_mem]; exact hm
        rw [show k + (N + 1) = (k + N) + 1 by omega, clerestory_heap_walker_come_r]
        unfold clerestory_heap_walker_come_j1
        simp only
        rw [hr, if_neg (by simp only [decide_eq_true_eq]; omega), tab_at out h0 h1, Option.bind_some, if_neg (by simpa using hix), Option.bind_some, appq (by simp; omega), Option.bind_some, c1, Option.bind_some, tab_set h0 h1 hm]
        refine lim_add (c.Vals.length + 1) fun m => ?_
        exact w' k m _
    · exact come_stay h out hg v hv hn
/-! ### the walk from one root -/
theorem fill_loop (roots : List TJVal) (h : List TJCell) (K : List Int → Option Twalker) : ∀ (t : List Int) (i : Nat), i + t.length ≤ 1000 → ∀ m, heap_walked_l0 roots h K (m + t.length + 1) (List.replicate i (-1) ++ t) ((i + t.length : Nat) : Int) (i : Int) = K (List.replicate (i + t.length) (-1))
  | [], i, hi, m => by
    rw [heap_walked_l0, if_neg (by simp)]
    simp
  | x :: t, i, hi, m => by
    rw [List.length_cons] at hi ⊢
    have e0 : (List.replicate i (-1 : Int)).length = i := List.length_replicate
    rw [show m + (t.length + 1) + 1 = (m + t.length + 1) + 1 by omega, heap_walked_l0, if_pos (by simp only [decide_eq_true_eq]; omega)]
    have e1 : at? (List.replicate i (-1 : Int) ++ x :: t) (i : Int) = some x := at_midI _ _ _ _ (by omega)
    have e2 : (List.replicate i (-1 : Int) ++ x :: t).set (i : Int).toNat (-1) = List.replicate (i + 1) (-1) ++ t := by
      rw [set_midI _ _ _ _ _ (by simp), List.replicate_succ', List.append_assoc]
      rfl
    rw [e1, Option.bind_some, e2, wi_id (by omega) (by omega), show (i : Int) + 1 = ((i + 1 : Nat) : Int) by omega, show i + (t.length + 1) = i + 1 + t.length by omega]
    exact fill_loop roots h K t (i + 1) (by omega) m
theorem tab_nil (n : Nat) : List.replicate n (-1 : Int) = tab n [] := by
  unfold tab
  apply List.ext_getElem (by simp)
  intro j h1 h2
  simp [ixF]
theorem walked_eq (h : List TJCell) (H : HOK h) (v : TJVal) (hv : FitV h v) : ∃ all, GoodO h.length all ∧ heap_walked h [v] = some ⟨h, tab h.length all, all⟩ ∧ clerestoryref4_ReachedCells h [v] = some all := by
  have hH := H.len
  obtain ⟨all, a, N, g, c, d, w⟩ := come_at h H h.length [] (good_nil _) (cnt_nil _) v hv
  refine ⟨all, g, ?_, ?_⟩
  · unfold heap_walked
    rw [mkl_some (by omega) (by omega) (by omega) (by omega), Option.bind_some]
    refine lim_add (h.length + 1) fun m => ?_
    have := fill_loop [v] h (fun (w11 : (List Int)) => 
      lim fun kk => heap_walked_l1 [v] (fun (w01 : (List TJCell)) (w13 : (List Int)) (w21 : (List Int)) => 
          some (⟨w01, w13, w21⟩ : Twalker)) kk h w11 ([] : List Int) 0) (List.replicate h.length 0) 0 (by simp; omega) m
    simp only [List.length_replicate, List.replicate_zero, List.nil_append, Nat.zero_add] at this
    rw [Int.toNat_natCast]
    simp only [List.length_replicate]
    refine this.trans ?_
    rw [tab_nil]
    refine lim_add 2 fun m' => ?_
    have hcome : clerestory_heap_walker_come ⟨h, tab h.length [], []⟩ v = some ⟨h, tab h.length all, all⟩ := by
      unfold clerestory_heap_walker_come
      exact lim_add N w
    rw [heap_walked_l1, if_pos (by simp), show at? [v] 0 = some v from rfl, Option.bind_some, hcome, Option.bind_some, show wi (0 + 1) = 1 from rfl, heap_walked_l1, if_neg (by simp)]
  · unfold clerestoryref4_ReachedCells
    rw [cloneJ_eq (by simp), Option.bind_some, reverseJ_eq _ (by simp), Option.bind_some, guard_eq (by simp)]
    refine lim_add (a + 1) fun m => ?_
    have hc := cnt_nil h.length
    refine (reach_loop h H _ (m + (a + 1)) [v] [] (fun w hw => by simp at hw; subst hw; exact hv) (good_nil _) (by simp; omega)).trans ?_
    rw [show m + (a + 1) = (m + 1) + a by omega, d [] (m + 1), dfs, Option.bind_some]
/-! ### the moved values and cells -/
def mvF (all : List Int) (v : TJVal) : TJVal := ⟨v.Kind, if v.Kind = 4 then ixF all v.N 0 else v.N, v.S⟩
theorem moved_loop (h : List TJCell) (all : List Int) (l : List TJVal) (hl : l.length ≤ 2000000) (K : List TJVal → Option (List TJVal)) : ∀ (t pre : List TJVal), pre.length + t.length = l.length → (∀ v, v ∈ t → FitV h v) → ∀ m, clerestory_heap_walker_moved_l0 l ⟨h, tab h.length all, all⟩ K (m + t.length + 1) (pre ++ t) (pre.length : Int) = K (pre ++ t.map (mvF all))
  | [], pre, hp, ht, m => by
    simp only [List.length_nil] at hp
    rw [clerestory_heap_walker_moved_l0, if_neg (by simp only [decide_eq_true_eq]; omega)]
    rfl
  | v :: t, pre, hp, ht, m => by
    simp only [List.length_cons] at hp
    have e1 : at? (pre ++ v :: t) (pre.length : Int) = some v := at_midI _ _ _ _ rfl
    have ih : ∀ w, clerestory_heap_walker_moved_l0 l ⟨h, tab h.length all, all⟩ K (m + t.length + 1) (pre ++ w :: t) ((pre.length : Int) + 1) = K ((pre ++ [w]) ++ t.map (mvF all)) := by
      intro w
      have := moved_loop h all l hl K t (pre ++ [w]) (by simp; omega) (fun w hw => ht w (List.mem_cons_of_mem _ hw)) m
      rw [show ((pre ++ [w]).length : Int) = (pre.length : Int) + 1 by simp, show (pre ++ [w]) ++ t = pre ++ w :: t by simp] at this
      exact this
    rw [List.length_cons, show m + (t.length + 1) + 1 = (m + t.length + 1) + 1 by omega, clerestory_heap_walker_moved_l0, if_pos (by simp only [decide_eq_true_eq]; omega), e1, Option.bind_some]
    unfold clerestory_heap_walker_moved_j3
    rw [List.map_cons]
    by_cases h4 : v.Kind = 4
    · obtain ⟨h0, h1⟩ := ht v List.mem_cons_self h4
      have hr : heap_ref v = v.N := by unfold heap_ref; rw [if_pos (by simpa using h4)]
      rw [hr, if_pos (by simpa using h0), tab_at all h0 h1, Option.bind_some, Option.bind_some, set_midI _ _ _ _ _ (by simp), wi_id (by omega) (by omega), ih, List.append_assoc]
      congr 2
      unfold mvF
      rw [if_pos h4]
      rfl
    · have hr : heap_ref v = -1 := by unfold heap_ref; rw [if_neg (by simpa using h4)]
      rw [hr, if_neg (by decide), wi_id (by omega) (by omega), ih, List.append_assoc]
      congr 2
      unfold mvF
      rw [if_neg h4]
      rfl
theorem moved_eq (h : List TJCell) (all : List Int) (l : List TJVal) (hl : l.length ≤ 2000000) (ht : ∀ v, v ∈ l → FitV h v) : clerestory_heap_walker_moved ⟨h, tab h.length all, all⟩ l = some (l.map (mvF all)) := by
  unfold clerestory_heap_walker_moved
  rw [cloneJ_eq (by omega), Option.bind_some]
  exact lim_add (l.length + 1) fun m => moved_loop h all l hl _ l [] (by simp) ht m
theorem renum_loop (l : List TJVal) (order : List Int) (hl : l.length ≤ 2000000) (ho : order.length ≤ 1000000) (K : List TJVal → Option (List TJVal)) : ∀ (d i : Nat), i + d = l.length → ∀ m, clerestoryref4_renumbered_l0 l order K (m + d + 1) ((l.take i).map (mvF order)) (i : Int) = K (l.map (mvF order))
  | 0, i, hi, m => by
    obtain rfl : i = l.length := by omega
    rw [clerestoryref4_renumbered_l0, if_neg (by simp), List.take_length]
  | d + 1, i, hi, m => by
    have h : i < l.length := by omega
    have tk : l.take (i + 1) = l.take i ++ [l[i]] := by rw [List.take_add_one, List.getElem?_eq_getElem h]; rfl
    have ih := renum_loop l order hl ho K d (i + 1) (by omega) m
    rw [tk, List.map_append] at ih
    have hj : ∀ n, clerestoryref4_renumbered_j3 l[i] (i : Int) order l (clerestoryref4_renumbered_l0 l order K (m + d + 1)) K ((l.take i).map (mvF order)) n = clerestoryref4_renumbered_l0 l order K (m + d + 1) ((l.take i).map (mvF order) ++ [⟨l[i].Kind, n, l[i].S⟩]) ((i + 1 : Nat) : Int) := by
      intro n
      unfold clerestoryref4_renumbered_j3
      rw [appq (by simp; omega), Option.bind_some, wi_id (by omega) (by omega)]
      rfl
    rw [show m + (d + 1) + 1 = (m + d + 1) + 1 by omega, clerestoryref4_renumbered_l0, if_pos (by simp only [decide_eq_true_eq]; omega), at_some h, Option.bind_some]
    by_cases h4 : l[i].Kind = 4
    · rw [if_pos (by simpa using h4), index_eq _ _ ho, Option.bind_some, hj]
      refine Eq.trans ?_ ih
      congr 2
      simp only [List.map_cons, List.map_nil]
      unfold mvF
      rw [if_pos h4]
    · rw [if_neg (by simpa using h4), hj]
      refine Eq.trans ?_ ih
      congr 2
      simp only [List.map_cons, List.map_nil]
      unfold mvF
      rw [if_neg h4]
theorem renum_eq (l : List TJVal) (order : List Int) (hl : l.length ≤ 2000000) (ho : order.length ≤ 1000000) : clerestoryref4_renumbered l order = some (l.map (mvF order)) := by
  unfold clerestoryref4_renumbered
  exact lim_add (l.length + 1) fun m => renum_loop l order hl ho _ l.length 0 (by omega) m
def cellF (h : List TJCell) (all : List Int) (n : Int) : TJCell := match h[n.toNat]? with
  | some c => ⟨c.Kind, c.Names, c.Vals.map (mvF all)⟩
  | none => ⟨0, [], []⟩
theorem at_cellF {h : List TJCell} (all : List Int) {n : Int} (h0 : 0 ≤ n) (h1 : n < (h.length : Int)) : ∃ c, c ∈ h ∧ at? h n = some c ∧ cellF h all n = ⟨c.Kind, c.Names, c.Vals.map (mvF all)⟩ := by
  have hn : n.toNat < h.length := by omega
  refine ⟨h[n.toNat], List.getElem_mem hn, ?_, ?_⟩
  · rw [at_of h0, List.getElem?_eq_getElem hn]
  · unfold cellF; rw [List.getElem?_eq_getElem hn]
theorem move_loop (h : List TJCell) (H : HOK h) (all : List Int) (hg : GoodO h.length all) (roots : List TJVal) (K : List Int → List Int → List TJCell → Option (List TJCell × List TJVal × Int)) : ∀ (d i : Nat), i + d = all.length → ∀ m, heap_Move_l0 ⟨h, tab h.length all, all⟩ h roots K (m + d + 1) (tab h.length all) all ((all.take i).map (cellF h all)) (i : Int) = K (tab h.length all) all (all.map (cellF h all))
  | 0, i, hi, m => by
    obtain rfl : i = all.length := by omega
    rw [heap_Move_l0, if_neg (by simp), List.take_length]
  | d + 1, i, hi, m => by
    have hlt : i < all.length := by omega
    have hlen := hg.2
    have hH := H.len
    have tk : all.take (i + 1) = all.take i ++ [all[i]] := by rw [List.take_add_one, List.getElem?_eq_getElem hlt]; rfl
    have ih := move_loop h H all hg roots K d (i + 1) (by omega) m
    rw [tk, List.map_append] at ih
    obtain ⟨h0, h1⟩ := hg.1 _ (List.getElem_mem hlt)
    obtain ⟨c, hc, c1, c2⟩ := at_cellF all h0 h1
    have hv := H.vals c hc
    have hn := H.names c hc
    have hcop : heap_copied c = some c := by
      unfold heap_copied
      rw [cloneS_eq (by omega), Option.bind_some, cloneJ_eq (by omega), Option.bind_some]
    rw [show m + (d + 1) + 1 = (m + d + 1) + 1 by omega, heap_Move_l0, if_pos (by simp only [decide_eq_true_eq]; omega), at_some hlt, Option.bind_some, c1, Option.bind_some, hcop, Option.bind_some, moved_eq h all c.Vals (by omega) (H.fit c hc), Option.bind_some, appq (by simp; omega), Option.bind_some, wi_id (by omega) (by omega), show (i : Int) + 1 = ((i + 1 : Nat) : Int) by omega]
    simp only [List.map_cons, List.map_nil, c2] at ih
    exact ih
theorem mcell_loop (h : List TJCell) (H : HOK h) (all : List Int) (hg : GoodO h.length all) (roots : List TJVal) (K : List Int → List TJCell → Option (List TJCell × List TJVal)) : ∀ (d i : Nat), i + d = all.length → ∀ m, clerestoryref4_MovedCells_l0 all h roots K (m + d + 1) all ((all.take i).map (cellF h all)) (i : Int) = K all (all.map (cellF h all))
  | 0, i, hi, m => by
    obtain rfl : i = all.length := by omega
    rw [clerestoryref4_MovedCells_l0, if_neg (by simp), List.take_length]
  | d + 1, i, hi, m => by
    have hlt : i < all.length := by omega
    have hlen := hg.2
    have hH := H.len
    have tk : all.take (i + 1) = all.take i ++ [all[i]] := by rw [List.take_add_one, List.getElem?_eq_getElem hlt]; rfl
    have ih := mcell_loop h H all hg roots K d (i + 1) (by omega) m
    rw [tk, List.map_append] at ih
    obtain ⟨h0, h1⟩ := hg.1 _ (List.getElem_mem hlt)
    obtain ⟨c, hc, c1, c2⟩ := at_cellF all h0 h1
    have hv := H.vals c hc
    rw [show m + (d + 1) + 1 = (m + d + 1) + 1 by omega, clerestoryref4_MovedCells_l0, if_pos (by simp only [decide_eq_true_eq]; omega), at_some hlt, Option.bind_some, c1, Option.bind_some, Option.bind_some, Option.bind_some, renum_eq c.Vals all (by omega) (by omega), Option.bind_some, appq (by simp; omega), Option.bind_some, wi_id (by omega) (by omega), show (i : Int) + 1 = ((i + 1 : Nat) : Int) by omega]
    simp only [List.map_cons, List.map_nil, c2] at ih
    exact ih
/-- with one root that may be asked for: both move alike -/
theorem move_eq (h : List TJCell) (hh : HpOK h) (v : TJVal) (ha : ask h v = 0) : ∃ (x : List TJCell) (r : TJVal), x.length ≤ 1000 ∧ (∀ c, c ∈ x → c.Names.length ≤ 1000 ∧ c.Vals.length ≤ 1000) ∧ heap_Move h [v] = some (x, [r], 0) ∧ clerestoryref4_MovedCells h [v] = some (x, [r]) := by
  have ha2 := ha
  unfold ask at ha2
  have hc : chk h = 0 := by
    by_cases hc : chk h = 0
    · exact hc
    · rw [if_neg hc] at ha2; exact ha2
  have hf : fitB h v = true := by
    rw [if_pos hc] at ha2
    cases hx : fitB h v with
    | true => rfl
    | false => rw [hx] at ha2; simp at ha2
  have H := chk_ok hc
  have hH := H.len
  obtain ⟨all, hg, w1, w2⟩ := walked_eq h H v (fitB_fit hf)
  have hlen := hg.2
  refine ⟨all.map (cellF h all), mvF all v, by simp; omega, fun c hcm => ?_, ?_, ?_⟩
  · obtain ⟨n, hn, rfl⟩ := List.mem_map.1 hcm
    obtain ⟨h0, h1⟩ := hg.1 n hn
    obtain ⟨c, hc, c1, c2⟩ := at_cellF all h0 h1
    have hv := H.vals c hc
    have hn := H.names c hc
    rw [c2]
    exact ⟨by simp only; omega, by simp only [List.length_map]; omega⟩
  · unfold heap_Move
    rw [asked_eq h hh, Option.bind_some, ha, if_neg (by decide), w1, Option.bind_some]
    refine lim_add (all.length + 1) fun m => ?_
    refine (move_loop h H all hg [v] _ all.length 0 (by omega) m).trans ?_
    rw [moved_eq h all [v] (by simp) (fun w hw => by simp at hw; subst hw; exact fitB_fit hf), Option.bind_some]
    rfl
  · unfold clerestoryref4_MovedCells
    rw [w2, Option.bind_some]
    refine lim_add (all.length + 1) fun m => ?_
    refine (mcell_loop h H all hg [v] _ all.length 0 (by omega) m).trans ?_
    rw [renum_eq [v] all (by simp) (by omega), Option.bind_some]
    rfl
theorem move_bad (h : List TJCell) (hh : HpOK h) (v : TJVal) (ha : ask h v ≠ 0) : heap_Move h [v] = some ([], [], ask h v) := by
  unfold heap_Move
  rw [asked_eq h hh, Option.bind_some, if_pos (by simp [ha])]
end Go.Proofs.YtoomjemboekooaaBv
