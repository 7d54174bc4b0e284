/- The law of what wins, in its order, over plain values: the program's stable sort gives the document's order. No program is in sight. -/
import Derived.Test.YtgfcmhomndofaaaShCascadeOrders
import Derived.Test.YtgfcmhomndofaaaBv23
namespace Go.Proofs.YtgfcmhomndofaaaBv
open Go
set_option linter.unusedSimpArgs false
set_option linter.unusedVariables false
theorem rank_eq (g : TSGiven) : cascade_rank g = clerestoryref2_Rank g := rfl
def sg (x y : Int) : Int := if x < y then -1 else if y < x then 1 else 0
theorem compare_sg (x y : Int) : cmp_Compare_int x y = sg x y := by
  unfold cmp_Compare_int cmp_isNaN_int sg
  by_cases h1 : x < y
  · simp [h1]
  · by_cases h2 : y < x
    · simp [h1, h2]
    · simp [h1, h2]
theorem or_three (x y z : Int) : cmp_Or_int [x, y, z] = some (if x ≠ 0 then x else if y ≠ 0 then y else z) := by
  unfold cmp_Or_int
  refine lim_add 4 fun k => ?_
  have st : ∀ (m : Nat) (i v : Int), i < 3 → at? [x, y, z] i = some v → cmp_Or_int_l0 [x, y, z] (fun _ => some 0) (m + 1) i = if v ≠ 0 then some v else cmp_Or_int_l0 [x, y, z] (fun _ => some 0) m (wi (i + 1)) := by
    intro m i v hi hv
    rw [cmp_Or_int_l0, if_pos (by simp; omega), hv, Option.bind_some]
    by_cases h : v = 0 <;> simp [h]
  rw [st (k + 3) 0 x (by decide) rfl, show wi (0 + 1) = 1 from rfl, st (k + 2) 1 y (by decide) rfl, show wi (1 + 1) = 2 from rfl, st (k + 1) 2 z (by decide) rfl, show wi (2 + 1) = 3 from rfl,
    show cmp_Or_int_l0 [x, y, z] (fun _ => some 0) (k + 1) 3 = some 0 from by rw [cmp_Or_int_l0, if_neg (by simp)]]
  by_cases h1 : x = 0
  · by_cases h2 : y = 0
    · by_cases h3 : z = 0 <;> simp [h1, h2, h3]
    · simp [h1, h2]
  · simp [h1]
/-- the comparison says the document's order -/
theorem compare_eq (a b : TSGiven) : ∃ c, cascade_compare a b = some c ∧ (c < 0 ↔ clerestoryref2_Later a b = true) := by
  unfold cascade_compare
  rw [letIn_eq, compare_sg, compare_sg, compare_sg, or_three, Option.bind_some]
  refine ⟨_, rfl, ?_⟩
  rw [rank_eq, rank_eq]
  unfold clerestoryref2_Later sg
  generalize clerestoryref2_Rank a = x
  generalize clerestoryref2_Rank b = y
  rcases Int.lt_trichotomy x y with h | h | h
  · have : ¬ x = y := by omega
    simp [h, this]
  · subst h
    rcases Int.lt_trichotomy a.Weight b.Weight with h | h | h
    · have : ¬ a.Weight = b.Weight := by omega
      simp [h, this]
    · simp only [h, Int.lt_irrefl, if_false, ne_eq, not_true_eq_false, decide_true, Bool.not_true, Bool.false_eq_true, decide_eq_true_eq]
      split
      · simp_all
      · split <;> simp_all
    · have h1 : ¬ a.Weight = b.Weight := by omega
      have h2 : ¬ a.Weight < b.Weight := by omega
      simp [h, h1, h2]
  · have h1 : ¬ x = y := by omega
    have h2 : ¬ x < y := by omega
    simp [h, h1, h2]

/-! ### the order of places: by the document's order, and by place where that says nothing -/
def key (l : List TSGiven) (p : Int) : Int × Int × Int := match at? l p with | some g => (clerestoryref2_Rank g, g.Weight, g.Place) | none => (0, 0, 0)
def klt (a b : Int × Int × Int) : Prop := a.1 < b.1 ∨ (a.1 = b.1 ∧ (a.2.1 < b.2.1 ∨ (a.2.1 = b.2.1 ∧ a.2.2 < b.2.2)))
instance (a b : Int × Int × Int) : Decidable (klt a b) := by unfold klt; infer_instance
theorem later_key {l : List TSGiven} {p q : Int} {a b : TSGiven} (ha : at? l p = some a) (hb : at? l q = some b) : clerestoryref2_Later a b = true ↔ klt (key l p) (key l q) := by
  unfold key
  rw [ha, hb]
  unfold clerestoryref2_Later klt
  by_cases h1 : clerestoryref2_Rank a = clerestoryref2_Rank b
  · by_cases h2 : a.Weight = b.Weight
    · simp [h1, h2]
    · simp [h1, h2]
  · simp [h1]
theorem klt_trans {a b c : Int × Int × Int} (h1 : klt a b) (h2 : klt b c) : klt a c := by unfold klt at *; omega
theorem klt_irrefl (a : Int × Int × Int) : ¬ klt a a := by unfold klt; omega
def Before (l : List TSGiven) (p q : Int) : Prop := klt (key l p) (key l q) ∨ (¬ klt (key l q) (key l p) ∧ p < q)
theorem before_trans {l : List TSGiven} {p q r : Int} (h1 : Before l p q) (h2 : Before l q r) : Before l p r := by unfold Before klt at *; omega
theorem before_irrefl (l : List TSGiven) (p : Int) : ¬ Before l p p := by unfold Before klt; omega
theorem before_asymm {l : List TSGiven} {p q : Int} (h : Before l p q) : ¬ Before l q p := fun h' => before_irrefl l p (before_trans h h')
theorem before_total (l : List TSGiven) {p q : Int} (h : p ≠ q) : Before l p q ∨ Before l q p := by unfold Before klt; omega
/-- two lists of the same places, both in order, are one -/
theorem sorted_unique (l : List TSGiven) : ∀ {xs ys : List Int}, xs.Perm ys → xs.Pairwise (Before l) → ys.Pairwise (Before l) → xs = ys
  | [], ys, hp, _, _ => (List.nil_perm.1 hp).symm
  | x :: xs, [], hp, _, _ => absurd hp.length_eq (by simp)
  | x :: xs, y :: ys, hp, h1, h2 => by
    rw [List.pairwise_cons] at h1 h2
    have hxy : x = y := by
      by_cases h : x = y
      · exact h
      · have m1 : x ∈ ys := by
          have : x ∈ y :: ys := hp.subset List.mem_cons_self
          rcases List.mem_cons.1 this with h' | h'
          · exact absurd h' h
          · exact h'
        have m2 : y ∈ xs := by
          have : y ∈ x :: xs := hp.symm.subset List.mem_cons_self
          rcases List.mem_cons.1 this with h' | h'
          · exact absurd h'.symm h
          · exact h'
        exact absurd (h1.1 y m2) (before_asymm (h2.1 x m1))
    subst hxy
    rw [sorted_unique l (List.perm_cons x |>.1 hp) h1.2 h2.2]
/-- what the sort asks: for a place from behind against one from before it is the order of places -/
theorem fn1_eq (l : List TSGiven) {p q : Int} (hp : 0 ≤ p ∧ p < l.length) (hq : 0 ≤ q ∧ q < l.length) : ∃ c, cascade_Order_fn1 p q l = some c ∧ (c < 0 ↔ klt (key l p) (key l q)) := by
  obtain ⟨i, rfl⟩ : ∃ i : Nat, p = i := ⟨p.toNat, by omega⟩
  obtain ⟨j, rfl⟩ : ∃ j : Nat, q = j := ⟨q.toNat, by omega⟩
  have hi : i < l.length := by omega
  have hj : j < l.length := by omega
  obtain ⟨c, h1, h2⟩ := compare_eq l[i] l[j]
  refine ⟨c, ?_, ?_⟩
  · unfold cascade_Order_fn1
    rw [at_some hi, at_some hj, Option.bind_some, Option.bind_some, h1]
    rfl
  · rw [h2, later_key (at_some hi) (at_some hj)]
theorem before_of_gt {l : List TSGiven} {p q : Int} (h : q < p) : Before l p q ↔ klt (key l p) (key l q) := by unfold Before klt; omega

/-! ### the document's way: each place goes in from behind -/
def pl (n : Nat) : List Int := (List.range n).map fun i : Nat => (i : Int)
theorem pl_succ (n : Nat) : pl (n + 1) = pl n ++ [(n : Int)] := by unfold pl; rw [List.range_succ, List.map_append]; rfl
theorem mem_pl {n : Nat} {p : Int} : p ∈ pl n ↔ 0 ≤ p ∧ p < n := by
  unfold pl
  rw [List.mem_map]
  constructor
  · rintro ⟨i, h, rfl⟩; rw [List.mem_range] at h; omega
  · rintro ⟨h1, h2⟩; exact ⟨p.toNat, by rw [List.mem_range]; omega, by omega⟩
theorem down_loop (l : List TSGiven) (out : List Int) (i : Nat) (hi : i < l.length) (hm : ∀ p, p ∈ out → 0 ≤ p ∧ p < l.length) (hl : out.length < 1000) : ∀ (k : Nat), k ≤ out.length → (∀ j (hj : j < out.length), k ≤ j → klt (key l i) (key l out[j])) →
    ∃ k', k' ≤ out.length ∧ (∀ m K, clerestoryref2_OrderOf_l3 l (i : Int) K (m + k + 1) out (k : Int) = K out (k' : Int)) ∧ (∀ j (hj : j < out.length), k' ≤ j → klt (key l i) (key l out[j])) ∧ (∀ j (hj : j < out.length), j + 1 = k' → ¬ klt (key l i) (key l out[j]))
  | 0, hk, ha => by
    refine ⟨0, hk, fun m K => ?_, ha, fun j _ h => by omega⟩
    rw [clerestoryref2_OrderOf_l3, if_neg (by simp)]
    rfl
  | k + 1, hk, ha => by
    have hk1 : k < out.length := by omega
    have hp := hm _ (List.getElem_mem hk1)
    obtain ⟨q, hq⟩ : ∃ q : Nat, out[k] = q := ⟨out[k].toNat, by omega⟩
    have hql : q < l.length := by omega
    have e := later_key (at_some hi) (at_some hql)
    rw [← hq] at e
    by_cases hc : klt (key l i) (key l out[k])
    · obtain ⟨k', h1, h2, h3, h4⟩ := down_loop l out i hi hm hl k (by omega) fun j hj hkj => by
        by_cases h : j = k
        · subst h; exact hc
        · exact ha j hj (by omega)
      refine ⟨k', h1, fun m K => ?_, h3, h4⟩
      rw [clerestoryref2_OrderOf_l3, if_pos (by simp only [decide_eq_true_eq]; omega), at_some hi, Option.bind_some, wi_id (by omega) (by omega), show ((k + 1 : Nat) : Int) - 1 = (k : Int) by omega, at_some hk1, Option.bind_some, hq, at_some hql, Option.bind_some, e.2 hc]
      unfold clerestoryref2_OrderOf_j6
      rw [if_pos rfl, wi_id (by omega) (by omega), show ((k + 1 : Nat) : Int) - 1 = (k : Int) by omega, show m + (k + 1) = m + k + 1 by omega]
      exact h2 m K
    · refine ⟨k + 1, hk, fun m K => ?_, ha, fun j hj h => ?_⟩
      · rw [clerestoryref2_OrderOf_l3, if_pos (by simp only [decide_eq_true_eq]; omega), at_some hi, Option.bind_some, wi_id (by omega) (by omega), show ((k + 1 : Nat) : Int) - 1 = (k : Int) by omega, at_some hk1, Option.bind_some, hq, at_some hql, Option.bind_some]
        unfold clerestoryref2_OrderOf_j6
        rw [if_neg fun h => hc (e.1 h)]
      · obtain rfl : j = k := by omega
        exact hc

theorem order_loop (l : List TSGiven) (hl : l.length ≤ 60) (K : List Int → Option (List Int)) : ∀ (d i : Nat) (out : List Int), i + d = l.length → out.Perm (pl i) → out.Pairwise (Before l) →
    ∃ out', out'.Perm (pl l.length) ∧ out'.Pairwise (Before l) ∧ ∀ m, clerestoryref2_OrderOf_l2 l K (m + d + 1) out (i : Int) = K out'
  | 0, i, out, hi, hp, hs => by
    obtain rfl : i = l.length := by omega
    refine ⟨out, hp, hs, fun m => ?_⟩
    rw [clerestoryref2_OrderOf_l2, if_neg (by simp)]
  | d + 1, i, out, hi, hp, hs => by
    have hil : i < l.length := by omega
    have hlen : out.length = i := by rw [hp.length_eq]; unfold pl; rw [List.length_map, List.length_range]
    have hm : ∀ p, p ∈ out → 0 ≤ p ∧ p < i := fun p h => mem_pl.1 (hp.subset h)
    obtain ⟨k, h1, h2, h3, h4⟩ := down_loop l out i hil (fun p h => by have := hm p h; omega) (by omega) out.length (Nat.le_refl _) fun j hj hkj => absurd hj (by omega)
    have hpw := List.pairwise_iff_getElem.1 hs
    have hbefore : ∀ j (hj : j < out.length), j < k → Before l out[j] i := by
      intro j hj hjk
      have hk0 : k - 1 < out.length := by omega
      have hlast : Before l out[k - 1] i := by
        have h5 := h4 (k - 1) hk0 (by omega)
        have h6 := hm _ (List.getElem_mem hk0)
        exact .inr ⟨h5, h6.2⟩
      by_cases h : j = k - 1
      · subst h; exact hlast
      · exact before_trans (hpw j (k - 1) hj hk0 (by omega)) hlast
    have hnew : (out.take k ++ [(i : Int)] ++ out.drop k).Pairwise (Before l) := by
      rw [List.append_assoc, List.pairwise_append]
      refine ⟨hs.sublist (List.take_sublist _ _), ?_, ?_⟩
      · rw [List.singleton_append, List.pairwise_cons]
        refine ⟨fun q hq => ?_, hs.sublist (List.drop_sublist _ _)⟩
        obtain ⟨j, hj, rfl⟩ := List.mem_iff_getElem.1 hq
        rw [List.getElem_drop]
        exact .inl (h3 _ _ (by omega))
      · intro p hpm q hqm
        obtain ⟨j, hj, rfl⟩ := List.mem_iff_getElem.1 hpm
        rw [List.length_take] at hj
        rw [List.getElem_take]
        have hji := hbefore j (by omega) (by omega)
        rw [List.singleton_append, List.mem_cons] at hqm
        rcases hqm with rfl | hqm
        · exact hji
        · obtain ⟨j2, hj2, rfl⟩ := List.mem_iff_getElem.1 hqm
          rw [List.length_drop] at hj2
          rw [List.getElem_drop]
          exact hpw j (k + j2) (by omega) (by omega) (by omega)
    have hperm : (out.take k ++ [(i : Int)] ++ out.drop k).Perm (pl (i + 1)) := by
      rw [pl_succ]
      refine List.Perm.trans ?_ (hp.append_right _)
      rw [List.append_assoc]
      refine List.Perm.trans (List.Perm.append_left _ List.perm_append_comm) ?_
      rw [← List.append_assoc, List.take_append_drop]
    obtain ⟨out', e1, e2, e3⟩ := order_loop l hl K d (i + 1) _ (by omega) hperm hnew
    refine ⟨out', e1, e2, fun m => ?_⟩
    rw [clerestoryref2_OrderOf_l2, if_pos (by simp only [decide_eq_true_eq]; omega)]
    refine (?_ : _ = clerestoryref2_OrderOf_l2 l K (m + d + 1) (out.take k ++ [(i : Int)] ++ out.drop k) ((i + 1 : Nat) : Int)).trans (e3 m)
    obtain ⟨o, ho⟩ : ∃ o, clerestoryref2_OrderOf_l2 l K (m + d + 1) (out.take k ++ [(i : Int)] ++ out.drop k) ((i + 1 : Nat) : Int) = o := ⟨_, rfl⟩
    rw [ho]
    refine lim_add (out.length + 1) fun m2 => (h2 m2 _).trans ?_
    have s1 : sub? out 0 (k : Int) = some (out.take k) := by
      unfold sub?
      rw [if_pos (by omega)]
      simp
    have s2 : sub? out (k : Int) (out.length : Int) = some (out.drop k) := by
      unfold sub?
      rw [if_pos (by omega)]
      simp
    have a1 : app? 8 ([] : List Int) (out.take k) = some (out.take k) := by
      unfold app?
      rw [if_pos (by simp; omega)]
      rfl
    have a2 : app? 8 (out.take k) [(i : Int)] = some (out.take k ++ [(i : Int)]) := by
      unfold app?
      rw [if_pos (by simp; omega)]
    have a3 : app? 8 (out.take k ++ [(i : Int)]) (out.drop k) = some (out.take k ++ [(i : Int)] ++ out.drop k) := by
      unfold app?
      rw [if_pos (by simp; omega)]
    rw [s1, Option.bind_some, a1, Option.bind_some, a2, Option.bind_some, s2, Option.bind_some, a3, Option.bind_some, wi_id (by omega) (by omega), show (i : Int) + 1 = ((i + 1 : Nat) : Int) by omega, show m + (d + 1) = m + d + 1 by omega]
    exact ho
theorem order_of (l : List TSGiven) (hl : l.length ≤ 60) : ∃ out, out.Perm (pl l.length) ∧ out.Pairwise (Before l) ∧ clerestoryref2_OrderOf l = some out := by
  obtain ⟨out, h1, h2, h3⟩ := order_loop l hl (fun out1 => some out1) l.length 0 [] (by omega) (List.Perm.refl _) List.Pairwise.nil
  exact ⟨out, h1, h2, lim_add (l.length + 1) fun m => h3 m⟩

/-! ### the law, if the sort sorts -/
theorem less_eq (a b : TSGiven) : cascade_Less a b = some (clerestoryref2_Later a b) := by
  obtain ⟨c, h1, h2⟩ := compare_eq a b
  unfold cascade_Less
  rw [h1, Option.bind_some]
  congr 1
  rw [Bool.eq_iff_iff, decide_eq_true_eq]
  exact h2
theorem own_eq : clerestorylaw2_own = some true := by
  unfold clerestorylaw2_own clerestorylaw2_own_j1
  simp only [less_eq, Option.bind_some, letIn_eq]
  decide
theorem law_loop (l : List TSGiven) (out : List Int) (hm : ∀ p, p ∈ out → 0 ≤ p ∧ p < l.length) (hl : out.length < 1000) : ∀ (d i : Nat), i + d = out.length → ∀ m, clerestorylaw2_CascadeOrders_l0 l true (fun _ => some true) (m + d + 1) out out (i : Int) = some true
  | 0, i, hi, m => by
    rw [clerestorylaw2_CascadeOrders_l0, if_neg (by simp only [decide_eq_true_eq]; omega)]
  | d + 1, i, hi, m => by
    have h1 : i < out.length := by omega
    have go : clerestorylaw2_CascadeOrders_j3 (i : Int) l true (clerestorylaw2_CascadeOrders_l0 l true (fun _ => some true) (m + (d + 1))) (fun _ => some true) out out false = some true := by
      unfold clerestorylaw2_CascadeOrders_j3
      rw [if_neg (by decide), wi_id (by omega) (by omega), show (i : Int) + 1 = ((i + 1 : Nat) : Int) by omega, show m + (d + 1) = m + d + 1 by omega]
      exact law_loop l out hm hl d (i + 1) (by omega) m
    rw [clerestorylaw2_CascadeOrders_l0, if_pos (by simp only [decide_eq_true_eq]; omega), at_some h1, Option.bind_some, Option.bind_some, if_neg (by simp)]
    by_cases h0 : 0 < i
    · have h2 : i - 1 < out.length := by omega
      obtain ⟨p, hp⟩ : ∃ p : Nat, out[i] = p := ⟨out[i].toNat, by have := hm _ (List.getElem_mem h1); omega⟩
      obtain ⟨q, hq⟩ : ∃ q : Nat, out[i - 1] = q := ⟨out[i - 1].toNat, by have := hm _ (List.getElem_mem h2); omega⟩
      have hpl : p < l.length := by have := hm _ (List.getElem_mem h1); omega
      have hql : q < l.length := by have := hm _ (List.getElem_mem h2); omega
      rw [if_pos (by simp only [decide_eq_true_eq]; omega), wi_id (by omega) (by omega), show (i : Int) - 1 = ((i - 1 : Nat) : Int) by omega, at_some h2, hp, hq]
      simp only [Option.bind_some, at_some hpl, at_some hql, less_eq]
      rw [show (!((clerestoryref2_Later l[p] l[q] == clerestoryref2_Later l[p] l[q]) && true)) = false by simp]
      exact go
    · rw [if_neg (by simp only [decide_eq_true_eq]; omega)]
      exact go
/-- what is left to be shown: the program's sort gives the places in their order -/
def SortOk : Prop := ∀ l : List TSGiven, l.length ≤ 60 → ∃ out, out.Perm (pl l.length) ∧ out.Pairwise (Before l) ∧ cascade_Order l = some out
theorem law_of_sort (hsort : SortOk) : PureCascadeOrders := by
  intro l hok
  unfold clerestorylaw2_CascadeOrders
  rw [own_eq, Option.bind_some]
  have hmn : 0 ≤ mn (l.length : Int) 60 ∧ mn (l.length : Int) 60 ≤ 60 ∧ mn (l.length : Int) 60 ≤ l.length := by unfold mn; split <;> omega
  have hs : sub? l 0 (mn (l.length : Int) 60) = some (l.take (mn (l.length : Int) 60).toNat) := by
    unfold sub?
    rw [if_pos ⟨Int.le_refl _, hmn.1, hmn.2.2⟩]
    simp
  rw [hs, Option.bind_some]
  have hlen : (l.take (mn (l.length : Int) 60).toNat).length ≤ 60 := by rw [List.length_take]; omega
  generalize l.take (mn (l.length : Int) 60).toNat = l' at hlen
  obtain ⟨o1, p1, s1, e1⟩ := hsort l' hlen
  obtain ⟨o2, p2, s2, e2⟩ := order_of l' hlen
  obtain rfl := sorted_unique l' (p1.trans p2.symm) s1 s2
  rw [e1, e2, Option.bind_some, Option.bind_some, if_neg (by simp)]
  have hol : o1.length = l'.length := by rw [p1.length_eq]; unfold pl; rw [List.length_map, List.length_range]
  refine lim_add (o1.length + 1) fun m => ?_
  exact law_loop l' o1 (fun p hp => mem_pl.1 (p1.subset hp)) (by omega) o1.length 0 (by omega) m

/-! ### the sort by insertion -/
theorem swap_set (A B : List Int) (x y : Int) : ((A ++ y :: x :: B).set (A.length + 1) y).set A.length x = A ++ x :: y :: B := by
  rw [List.set_append_right _ _ (by omega), List.set_append_right _ _ (by omega)]
  simp
theorem at_mid (A B : List Int) (x : Int) : at? (A ++ x :: B) (A.length : Int) = some x := by rw [at_nat]; simp
theorem insert_loop (l : List TSGiven) (pre post : List Int) (x : Int) (b_ i_ : Int) (hx : 0 ≤ x ∧ x < l.length) : ∀ (n : Nat) (seg post2 : List Int), seg.length = n → (pre ++ seg ++ x :: post2).length < 1000 → (∀ p, p ∈ seg → 0 ≤ p ∧ p < x) → seg.Pairwise (Before l) →
    ∃ seg2, seg2.Perm (seg ++ [x]) ∧ seg2.Pairwise (Before l) ∧ (∀ m K, slices_insertionSortCmpFunc_int_l3 (pre.length : Int) l b_ i_ K (m + n + 1) (pre ++ seg ++ x :: post2) ((pre.length + n : Nat) : Int) = K (pre ++ seg2 ++ post2))
  | 0, seg, post2, hn, hl, hp, hs => by
    obtain rfl := List.eq_nil_of_length_eq_zero hn
    refine ⟨[x], List.Perm.refl _, List.pairwise_singleton _ _, fun m K => ?_⟩
    rw [slices_insertionSortCmpFunc_int_l3, if_neg (by simp)]
    unfold slices_insertionSortCmpFunc_int_j9
    rw [if_neg (by decide)]
    simp
  | n + 1, seg, post2, hn, hl, hp, hs => by
    rcases List.eq_nil_or_concat seg with rfl | ⟨sg, y, rfl⟩
    · simp at hn
    rw [List.concat_eq_append] at *
    have hsg : sg.length = n := by simp at hn; exact hn
    have hy := hp y (by simp)
    have hs' := (List.pairwise_append.1 hs).1
    have hsy : ∀ p, p ∈ sg → Before l p y := fun p h => (List.pairwise_append.1 hs).2.2 p h y (by simp)
    obtain ⟨c, c1, c2⟩ := fn1_eq l (p := x) (q := y) hx (by omega)
    have e1 : pre ++ (sg ++ [y]) ++ x :: post2 = (pre ++ sg) ++ y :: x :: post2 := by simp
    have e2 : pre ++ (sg ++ [y]) ++ x :: post2 = (pre ++ sg ++ [y]) ++ x :: post2 := by simp
    have hA : (pre ++ sg).length = pre.length + n := by rw [List.length_append, hsg]
    have hAy : (pre ++ sg ++ [y]).length = pre.length + (n + 1) := by simp [hsg]
    have hlen : pre.length + n < 1000 := by rw [e1, List.length_append, hA] at hl; omega
    have ax : at? (pre ++ (sg ++ [y]) ++ x :: post2) ((pre.length + (n + 1) : Nat) : Int) = some x := by rw [e2, ← hAy]; exact at_mid _ _ _
    have ay : at? (pre ++ (sg ++ [y]) ++ x :: post2) ((pre.length + n : Nat) : Int) = some y := by rw [e1, ← hA]; exact at_mid _ _ _
    have hw : wi (((pre.length + (n + 1) : Nat) : Int) - 1) = ((pre.length + n : Nat) : Int) := by rw [wi_id (by omega) (by omega)]; omega
    by_cases hc : klt (key l x) (key l y)
    · obtain ⟨seg2, p1, s1, f1⟩ := insert_loop l pre post x b_ i_ hx n sg (y :: post2) hsg (by rw [e1] at hl; simp at hl ⊢; omega) (fun p h => hp p (by simp [h])) hs'
      refine ⟨seg2 ++ [y], ?_, ?_, fun m K => ?_⟩
      · refine (p1.append_right [y]).trans ?_
        rw [List.append_assoc, List.append_assoc]
        exact List.Perm.append_left _ List.perm_append_comm
      · rw [List.pairwise_append]
        refine ⟨s1, List.pairwise_singleton _ _, fun p hpm q hq => ?_⟩
        rw [List.mem_singleton] at hq
        subst hq
        have := p1.subset hpm
        rw [List.mem_append, List.mem_singleton] at this
        rcases this with h | rfl
        · exact hsy p h
        · exact .inl hc
      · rw [slices_insertionSortCmpFunc_int_l3, if_pos (by simp only [decide_eq_true_eq]; omega), ax, Option.bind_some, hw, ay, Option.bind_some, c1, Option.bind_some]
        unfold slices_insertionSortCmpFunc_int_j9
        rw [if_pos (by rw [decide_eq_true_eq]; exact c2.2 hc), hw, ay, ax, Option.bind_some, Option.bind_some, Option.bind_some]
        have es : ((pre ++ (sg ++ [y]) ++ x :: post2).set (pre.length + (n + 1)) y).set (pre.length + n) x = pre ++ sg ++ x :: y :: post2 := by
          rw [e1, ← hA, show pre.length + (n + 1) = (pre ++ sg).length + 1 by omega]
          exact swap_set _ _ _ _
        have a3 : at? ((pre ++ (sg ++ [y]) ++ x :: post2).set (pre.length + (n + 1)) y) ((pre.length + n : Nat) : Int) = some y := by
          rw [at_nat, List.getElem?_set_ne (by omega), ← at_nat]; exact ay
        rw [Int.toNat_natCast, Int.toNat_natCast, a3, Option.bind_some, es, show m + (n + 1) = m + n + 1 by omega, f1 m K]
        congr 1
        simp
    · refine ⟨sg ++ [y] ++ [x], List.Perm.refl _, ?_, fun m K => ?_⟩
      · rw [List.pairwise_append]
        refine ⟨hs, List.pairwise_singleton _ _, fun p hpm q hq => ?_⟩
        rw [List.mem_singleton] at hq
        subst hq
        have hyx : Before l y q := .inr ⟨hc, hy.2⟩
        rw [List.mem_append, List.mem_singleton] at hpm
        rcases hpm with h | rfl
        · exact before_trans (hsy p h) hyx
        · exact hyx
      · rw [slices_insertionSortCmpFunc_int_l3, if_pos (by simp only [decide_eq_true_eq]; omega), ax, Option.bind_some, hw, ay, Option.bind_some, c1, Option.bind_some]
        unfold slices_insertionSortCmpFunc_int_j9
        rw [if_neg (by rw [decide_eq_true_eq]; exact fun h => hc (c2.1 h))]
        congr 1
        simp

theorem insertion_loop (l : List TSGiven) (pre post : List Int) (b_ : Int) : ∀ (todo dn : List Int), (pre ++ dn ++ todo ++ post).length < 1000 → b_ = ((pre.length + dn.length + todo.length : Nat) : Int) → (∀ p, p ∈ dn ++ todo → 0 ≤ p ∧ p < l.length) → (∀ p, p ∈ dn → ∀ q, q ∈ todo → p < q) → todo.Pairwise (· < ·) → dn.Pairwise (Before l) →
    ∃ seg, seg.Perm (dn ++ todo) ∧ seg.Pairwise (Before l) ∧ ∀ m K, slices_insertionSortCmpFunc_int_l2 b_ (pre.length : Int) l K (m + todo.length + 1) (pre ++ dn ++ todo ++ post) ((pre.length + dn.length : Nat) : Int) = K (pre ++ seg ++ post)
  | [], dn, hl, hb, hr, hlt, ht, hd => by
    refine ⟨dn, by simp, hd, fun m K => ?_⟩
    rw [slices_insertionSortCmpFunc_int_l2, if_neg (by simp only [decide_eq_true_eq, List.length_nil] at *; omega)]
    congr 1
    simp
  | x :: todo, dn, hl, hb, hr, hlt, ht, hd => by
    rw [List.pairwise_cons] at ht
    have hx := hr x (by simp)
    have hlen : pre.length + dn.length + (todo.length + 1) < 1000 := by simp at hl; omega
    have e1 : pre ++ dn ++ (x :: todo) ++ post = pre ++ dn ++ x :: (todo ++ post) := by simp
    obtain ⟨seg2, p1, s1, f1⟩ := insert_loop l pre post x b_ ((pre.length + dn.length : Nat) : Int) hx dn.length dn (todo ++ post) rfl (by rw [← e1]; exact hl) (fun p h => ⟨(hr p (by simp [h])).1, hlt p h x (by simp)⟩) hd
    have hl2 : seg2.length = dn.length + 1 := by rw [p1.length_eq]; simp
    have e2 : pre ++ seg2 ++ (todo ++ post) = pre ++ seg2 ++ todo ++ post := by simp
    obtain ⟨seg, p2, s2, f2⟩ := insertion_loop l pre post b_ todo seg2 (by simp at hl ⊢; omega) (by rw [hb, hl2]; simp; omega) (fun p h => by
        rcases List.mem_append.1 h with h | h
        · have := p1.subset h
          exact hr p (by rcases List.mem_append.1 this with h' | h' <;> simp_all)
        · exact hr p (by simp [h])) (fun p h q hq => by
        have := p1.subset h
        rcases List.mem_append.1 this with h' | h'
        · exact hlt p h' q (by simp [hq])
        · rw [List.mem_singleton] at h'; subst h'; exact ht.1 q hq) ht.2 s1
    refine ⟨seg, p2.trans ?_, s2, fun m K => ?_⟩
    · refine (p1.append_right todo).trans ?_
      rw [List.append_assoc]
      exact List.Perm.refl _
    · rw [slices_insertionSortCmpFunc_int_l2, if_pos (by rw [hb]; simp only [decide_eq_true_eq, List.length_cons]; omega)]
      refine lim_add (dn.length + 1) fun m2 => ?_
      rw [e1]
      refine (f1 m2 _).trans ?_
      have := f2 m K
      rw [hl2] at this
      rw [e2, wi_id (by omega) (by omega), show ((pre.length + dn.length : Nat) : Int) + 1 = ((pre.length + (dn.length + 1) : Nat) : Int) by omega, List.length_cons, show m + (todo.length + 1) = m + todo.length + 1 by omega]
      exact this
theorem insertion_eq (l : List TSGiven) (pre seg0 post : List Int) (hl : (pre ++ seg0 ++ post).length < 1000) (hr : ∀ p, p ∈ seg0 → 0 ≤ p ∧ p < l.length) (ht : seg0.Pairwise (· < ·)) :
    ∃ seg, seg.Perm seg0 ∧ seg.Pairwise (Before l) ∧ slices_insertionSortCmpFunc_int (pre ++ seg0 ++ post) (pre.length : Int) ((pre.length + seg0.length : Nat) : Int) l = some (pre ++ seg ++ post) := by
  have hpl : pre.length < 1000 := by simp at hl; omega
  unfold slices_insertionSortCmpFunc_int
  rw [wi_id (by omega) (by omega)]
  cases seg0 with
  | nil =>
    refine ⟨[], List.Perm.refl _, List.Pairwise.nil, lim_add 1 fun m => ?_⟩
    rw [slices_insertionSortCmpFunc_int_l2, if_neg (by simp only [decide_eq_true_eq, List.length_nil]; omega)]
  | cons x todo =>
    rw [List.pairwise_cons] at ht
    obtain ⟨seg, p1, s1, f1⟩ := insertion_loop l pre post ((pre.length + (x :: todo).length : Nat) : Int) todo [x] (by simpa using hl) (by simp; omega) (fun p h => hr p (by simpa using h)) (fun p h q hq => by
      rw [List.mem_singleton] at h; subst h; exact ht.1 q hq) ht.2 (List.pairwise_singleton _ _)
    refine ⟨seg, p1, s1, lim_add (todo.length + 1) fun m => ?_⟩
    have := f1 m fun data2 => some data2
    rw [show pre ++ [x] ++ todo ++ post = pre ++ (x :: todo) ++ post by simp] at this
    exact this

/-! ### two stretches change places -/
theorem swap_loop (P M S : List Int) (a_ b_ n_ : Int) (K : List Int → Option (List Int)) : ∀ (X2 Y2 X1 Y1 : List Int), X2.length = Y2.length → X1.length = Y1.length → (P ++ Y1 ++ X2 ++ M ++ X1 ++ Y2 ++ S).length < 1000 → a_ = P.length → b_ = ((P.length + Y1.length + X2.length + M.length : Nat) : Int) → n_ = ((Y1.length + X2.length : Nat) : Int) →
    ∀ m, slices_swapRangeCmpFunc_int_l0 n_ b_ a_ K (m + X2.length + 1) (P ++ Y1 ++ X2 ++ M ++ X1 ++ Y2 ++ S) (Y1.length : Int) = K (P ++ (Y1 ++ Y2) ++ M ++ (X1 ++ X2) ++ S)
  | [], Y2, X1, Y1, h1, h2, hl, ha, hb, hn, m => by
    obtain rfl := List.eq_nil_of_length_eq_zero h1.symm
    rw [slices_swapRangeCmpFunc_int_l0, if_neg (by rw [hn]; simp)]
    congr 1
    simp
  | x :: X2, [], X1, Y1, h1, h2, hl, ha, hb, hn, m => by simp at h1
  | x :: X2, y :: Y2, X1, Y1, h1, h2, hl, ha, hb, hn, m => by
    have hlen : P.length + Y1.length + X2.length + M.length + X1.length < 999 := by simp at hl; omega
    have wb : wi (b_ + (Y1.length : Int)) = ((P ++ Y1 ++ x :: X2 ++ M ++ X1).length : Int) := by rw [wi_id (by simp at hb; omega) (by simp at hb; omega), hb]; simp; omega
    have wa : wi (a_ + (Y1.length : Int)) = ((P ++ Y1).length : Int) := by rw [wi_id (by omega) (by omega), ha]; simp
    have ey : P ++ Y1 ++ (x :: X2) ++ M ++ X1 ++ (y :: Y2) ++ S = (P ++ Y1 ++ x :: X2 ++ M ++ X1) ++ y :: (Y2 ++ S) := by simp
    have ex : P ++ Y1 ++ (x :: X2) ++ M ++ X1 ++ (y :: Y2) ++ S = (P ++ Y1) ++ x :: (X2 ++ M ++ X1 ++ (y :: Y2) ++ S) := by simp
    have ay : at? (P ++ Y1 ++ (x :: X2) ++ M ++ X1 ++ (y :: Y2) ++ S) ((P ++ Y1 ++ x :: X2 ++ M ++ X1).length : Int) = some y := by rw [ey]; exact at_mid _ _ _
    have ax : at? (P ++ Y1 ++ (x :: X2) ++ M ++ X1 ++ (y :: Y2) ++ S) ((P ++ Y1).length : Int) = some x := by rw [ex]; exact at_mid _ _ _
    have s1 : (P ++ Y1 ++ (x :: X2) ++ M ++ X1 ++ (y :: Y2) ++ S).set (P ++ Y1).length y = (P ++ Y1 ++ y :: X2 ++ M ++ X1) ++ y :: (Y2 ++ S) := by
      rw [ex, List.set_append_right _ _ (Nat.le_refl _)]
      simp
    have hls : (P ++ Y1 ++ x :: X2 ++ M ++ X1).length = (P ++ Y1 ++ y :: X2 ++ M ++ X1).length := by simp
    have a3 : at? ((P ++ Y1 ++ y :: X2 ++ M ++ X1) ++ y :: (Y2 ++ S)) ((P ++ Y1 ++ x :: X2 ++ M ++ X1).length : Int) = some y := by rw [hls]; exact at_mid _ _ _
    have s2 : ((P ++ Y1 ++ y :: X2 ++ M ++ X1) ++ y :: (Y2 ++ S)).set (P ++ Y1 ++ x :: X2 ++ M ++ X1).length x = P ++ (Y1 ++ [y]) ++ X2 ++ M ++ (X1 ++ [x]) ++ Y2 ++ S := by
      rw [hls, List.set_append_right _ _ (Nat.le_refl _)]
      simp
    rw [slices_swapRangeCmpFunc_int_l0, if_pos (by rw [hn]; simp; omega), wb, wa, ay, ax, Option.bind_some, Option.bind_some, Option.bind_some, Int.toNat_natCast, Int.toNat_natCast, s1, a3, Option.bind_some, s2, wi_id (by omega) (by omega)]
    have := swap_loop P M S a_ b_ n_ K X2 Y2 (X1 ++ [x]) (Y1 ++ [y]) (by simpa using h1) (by simp [h2]) (by simp at hl ⊢; omega) ha (by rw [hb]; simp; omega) (by rw [hn]; simp; omega) m
    rw [List.length_append, List.length_singleton] at this
    rw [List.length_cons, show m + (X2.length + 1) = m + X2.length + 1 by omega, show (Y1.length : Int) + 1 = ((Y1.length + 1 : Nat) : Int) by omega, this]
    congr 1
    simp
theorem swap_eq (P X M Y S : List Int) (l : List TSGiven) (h : X.length = Y.length) (hl : (P ++ X ++ M ++ Y ++ S).length < 1000) :
    slices_swapRangeCmpFunc_int (P ++ X ++ M ++ Y ++ S) (P.length : Int) ((P.length + X.length + M.length : Nat) : Int) (X.length : Int) l = some (P ++ Y ++ M ++ X ++ S) := by
  unfold slices_swapRangeCmpFunc_int
  refine lim_add (X.length + 1) fun m => ?_
  have := swap_loop P M S (P.length : Int) ((P.length + X.length + M.length : Nat) : Int) (X.length : Int) (fun data2 => some data2) X Y [] [] h rfl (by simpa using hl) rfl (by simp) (by simp) m
  rw [← Nat.add_assoc]
  simpa using this

theorem guard_eq {α β : Type} {a b : List α} {o : Option β} (h : a.length = b.length) : guardLen a b o = o := if_pos h
theorem rot_loop (l : List TSGiven) (m_ : Int) : ∀ (N : Nat) (P X Y S : List Int), X.length + Y.length ≤ N → 0 < X.length → 0 < Y.length → (P ++ X ++ Y ++ S).length < 1000 → m_ = ((P.length + X.length : Nat) : Int) → ∀ k,
    slices_rotateCmpFunc_int_l0 m_ l (fun (data2 : (List Int)) (i_1 : Int) => 
      (slices_swapRangeCmpFunc_int data2 (wi (m_ - i_1)) m_ i_1 l).bind fun r_2 =>
      guardLen data2 r_2 <|
      some r_2) (k + N) (P ++ X ++ Y ++ S) (X.length : Int) (Y.length : Int) = some (P ++ Y ++ X ++ S)
  | 0, P, X, Y, S, h, hx, hy, hl, hm, k => by omega
  | N + 1, P, X, Y, S, h, hx, hy, hl, hm, k => by
    have hlen : P.length + X.length + Y.length < 1000 := by simp at hl; omega
    have hS : P.length + X.length + Y.length + S.length < 1000 := by simp at hl; omega
    have w0 : wi (m_ - (X.length : Int)) = (P.length : Int) := by rw [wi_id (by omega) (by omega), hm]; omega
    rw [← Nat.add_assoc, slices_rotateCmpFunc_int_l0]
    by_cases he : X.length = Y.length
    · rw [if_neg (by simp [he]), w0]
      have := swap_eq P X [] Y S l he (by simpa using hl)
      rw [List.append_nil, List.append_nil, List.length_nil, Nat.add_zero, ← hm] at this
      rw [this, Option.bind_some, guard_eq (by simp; omega)]
    · rw [if_pos (by simp; omega)]
      by_cases hc : Y.length < X.length
      · rw [if_pos (by simp; omega), w0]
        have hX : X = X.take Y.length ++ X.drop Y.length := (List.take_append_drop _ _).symm
        have h1 : (X.take Y.length).length = Y.length := by rw [List.length_take]; omega
        have h2 : (X.drop Y.length).length = X.length - Y.length := List.length_drop
        have := swap_eq P (X.take Y.length) (X.drop Y.length) Y S l h1 (by rw [List.append_assoc P, ← hX]; exact hl)
        rw [List.append_assoc P (X.take Y.length), ← hX, h1, h2, show P.length + Y.length + (X.length - Y.length) = P.length + X.length by omega, ← hm] at this
        rw [this, Option.bind_some, guard_eq (by simp; omega), wi_id (by omega) (by omega), show (X.length : Int) - (Y.length : Int) = ((X.drop Y.length).length : Int) by rw [h2]; omega]
        have r := rot_loop l m_ N (P ++ Y) (X.drop Y.length) (X.take Y.length) S (by omega) (by omega) (by omega) (by simp only [List.length_append, h1, h2]; omega) (by rw [hm]; simp only [List.length_append, h2]; omega) k
        rw [h1] at r
        rw [r, List.append_assoc (P ++ Y), ← hX]
      · rw [if_neg (by simp; omega), w0]
        have hY : Y = Y.take (Y.length - X.length) ++ Y.drop (Y.length - X.length) := (List.take_append_drop _ _).symm
        have h1 : (Y.take (Y.length - X.length)).length = Y.length - X.length := by rw [List.length_take]; omega
        have h2 : (Y.drop (Y.length - X.length)).length = X.length := by rw [List.length_drop]; omega
        have w1 : wi (wi (m_ + (Y.length : Int)) - (X.length : Int)) = ((P.length + X.length + (Y.take (Y.length - X.length)).length : Nat) : Int) := by
          rw [wi_id (n := m_ + (Y.length : Int)) (by omega) (by omega), wi_id (by omega) (by omega), h1, hm]; omega
        have := swap_eq P X (Y.take (Y.length - X.length)) (Y.drop (Y.length - X.length)) S l h2.symm (by rw [List.append_assoc (P ++ X), ← hY]; exact hl)
        rw [List.append_assoc (P ++ X), ← hY] at this
        rw [w1, this, Option.bind_some, guard_eq (by simp; omega), wi_id (by omega) (by omega), show (Y.length : Int) - (X.length : Int) = ((Y.take (Y.length - X.length)).length : Int) by rw [h1]; omega]
        have r := rot_loop l m_ N P (Y.drop (Y.length - X.length)) (Y.take (Y.length - X.length)) (X ++ S) (by omega) (by omega) (by omega) (by simp only [List.length_append, h1, h2]; omega) (by rw [hm, h2]) k
        rw [h2] at r
        rw [← List.append_assoc, ← List.append_assoc] at r
        rw [r, List.append_assoc P, ← hY]
theorem rotate_eq (P X Y S : List Int) (l : List TSGiven) (hx : 0 < X.length) (hy : 0 < Y.length) (hl : (P ++ X ++ Y ++ S).length < 1000) :
    slices_rotateCmpFunc_int (P ++ X ++ Y ++ S) (P.length : Int) ((P.length + X.length : Nat) : Int) ((P.length + X.length + Y.length : Nat) : Int) l = some (P ++ Y ++ X ++ S) := by
  have hlen : P.length + X.length + Y.length < 1000 := by simp at hl; omega
  unfold slices_rotateCmpFunc_int
  refine lim_add (X.length + Y.length) fun k => ?_
  have := rot_loop l ((P.length + X.length : Nat) : Int) (X.length + Y.length) P X Y S (Nat.le_refl _) hx hy hl rfl k
  rw [wi_id (by omega) (by omega), wi_id (by omega) (by omega), show ((P.length + X.length : Nat) : Int) - (P.length : Int) = (X.length : Int) by omega, show ((P.length + X.length + Y.length : Nat) : Int) - ((P.length + X.length : Nat) : Int) = (Y.length : Int) by omega]
  exact this

/-! ### the places before they are sorted -/
theorem pl_len (n : Nat) : (pl n).length = n := by unfold pl; rw [List.length_map, List.length_range]
theorem places_loop (l : List TSGiven) (hl : l.length ≤ 60) (K : List Int → Option (List Int)) : ∀ (d i : Nat), i + d = l.length → ∀ m, cascade_Order_l0 l K (m + d + 1) (pl i) (i : Int) = K (pl l.length)
  | 0, i, hi, m => by
    obtain rfl : i = l.length := by omega
    rw [cascade_Order_l0, if_neg (by simp)]
  | d + 1, i, hi, m => by
    have a1 : app? 8 (pl i) [(i : Int)] = some (pl (i + 1)) := by
      unfold app?
      rw [if_pos (by simp [pl_len]; omega), pl_succ]
    rw [cascade_Order_l0, if_pos (by simp only [decide_eq_true_eq]; omega), a1, Option.bind_some, wi_id (by omega) (by omega), show (i : Int) + 1 = ((i + 1 : Nat) : Int) by omega, show m + (d + 1) = m + d + 1 by omega]
    exact places_loop l hl K d (i + 1) (by omega) m
/-! ### merging two stretches -/
theorem mid_eq {x y : Nat} (h : x + y < 100000) : wr .i64 (shr .u64 (wr .u64 (wi ((x : Int) + (y : Int)))) 1) = (((x + y) / 2 : Nat) : Int) := by
  rw [wi_id (by omega) (by omega), wr_u64, wr_i64]
  have e : ((x : Int) + (y : Int)) % 18446744073709551616 = ((x + y : Nat) : Int) := by omega
  rw [e]
  have e2 : shr .u64 ((x + y : Nat) : Int) 1 = (((x + y) / 2 : Nat) : Int) := by
    show Int.fdiv ((x + y : Nat) : Int) 2 = _
    rw [Int.fdiv_eq_ediv_of_nonneg _ (by decide)]
    omega
  rw [e2, wi_id (by omega) (by omega)]
theorem bsearch {β : Type} (F : Nat → Int → Int → β) (K : Int → β) (P : Nat → Prop) (lo hi : Nat)
    (stop : ∀ m (i : Nat), F (m + 1) (i : Int) (i : Int) = K (i : Int))
    (step : ∀ m (i j : Nat), lo ≤ i → i < j → j ≤ hi → (P ((i + j) / 2) ∧ F (m + 1) (i : Int) (j : Int) = F m (i : Int) (((i + j) / 2 : Nat) : Int)) ∨ (¬ P ((i + j) / 2) ∧ F (m + 1) (i : Int) (j : Int) = F m (((i + j) / 2 + 1 : Nat) : Int) (j : Int))) :
    ∀ (d i j : Nat), lo ≤ i → i ≤ j → j ≤ hi → j - i ≤ d → (lo < i → ¬ P (i - 1)) → (j < hi → P j) → ∃ s, lo ≤ s ∧ s ≤ hi ∧ (lo < s → ¬ P (s - 1)) ∧ (s < hi → P s) ∧ ∀ m, ∃ m', F (m + d + 1) (i : Int) (j : Int) = F (m' + 1) (s : Int) (s : Int)
  | 0, i, j, h1, h2, h3, h4, h5, h6 => by
    obtain rfl : i = j := by omega
    exact ⟨i, h1, h3, h5, h6, fun m => ⟨m, rfl⟩⟩
  | d + 1, i, j, h1, h2, h3, h4, h5, h6 => by
    by_cases he : i = j
    · subst he
      exact ⟨i, h1, h3, h5, h6, fun m => ⟨m + (d + 1), rfl⟩⟩
    · rcases step 0 i j h1 (by omega) h3 with ⟨hP, _⟩ | ⟨hP, _⟩
      · obtain ⟨s, s1, s2, s3, s4, s5⟩ := bsearch F K P lo hi stop step d i ((i + j) / 2) h1 (by omega) (by omega) (by omega) h5 fun _ => hP
        refine ⟨s, s1, s2, s3, s4, fun m => ?_⟩
        rcases step (m + d + 1) i j h1 (by omega) h3 with ⟨_, e⟩ | ⟨hn, _⟩
        · obtain ⟨m', e'⟩ := s5 m
          exact ⟨m', by rw [show m + (d + 1) + 1 = m + d + 1 + 1 by omega, e, e']⟩
        · exact absurd hP hn
      · obtain ⟨s, s1, s2, s3, s4, s5⟩ := bsearch F K P lo hi stop step d ((i + j) / 2 + 1) j (by omega) (by omega) h3 (by omega) (fun _ => by simpa using hP) h6
        refine ⟨s, s1, s2, s3, s4, fun m => ?_⟩
        rcases step (m + d + 1) i j h1 (by omega) h3 with ⟨hn, _⟩ | ⟨_, e⟩
        · exact absurd hn hP
        · obtain ⟨m', e'⟩ := s5 m
          exact ⟨m', by rw [show m + (d + 1) + 1 = m + d + 1 + 1 by omega, e, e']⟩
theorem bsearch_eq {β : Type} (F : Nat → Int → Int → β) (K : Int → β) (P : Nat → Prop) (lo hi : Nat) (hlh : lo ≤ hi)
    (stop : ∀ m (i : Nat), F (m + 1) (i : Int) (i : Int) = K (i : Int))
    (step : ∀ m (i j : Nat), lo ≤ i → i < j → j ≤ hi → (P ((i + j) / 2) ∧ F (m + 1) (i : Int) (j : Int) = F m (i : Int) (((i + j) / 2 : Nat) : Int)) ∨ (¬ P ((i + j) / 2) ∧ F (m + 1) (i : Int) (j : Int) = F m (((i + j) / 2 + 1 : Nat) : Int) (j : Int))) :
    ∃ s, lo ≤ s ∧ s ≤ hi ∧ (lo < s → ¬ P (s - 1)) ∧ (s < hi → P s) ∧ ∀ m, F (m + (hi - lo + 1)) (lo : Int) (hi : Int) = K (s : Int) := by
  obtain ⟨s, s1, s2, s3, s4, s5⟩ := bsearch F K P lo hi stop step (hi - lo) lo hi (Nat.le_refl _) hlh (Nat.le_refl _) (Nat.le_refl _) (fun h => absurd h (Nat.lt_irrefl _)) (fun h => absurd h (Nat.lt_irrefl _))
  refine ⟨s, s1, s2, s3, s4, fun m => ?_⟩
  obtain ⟨m', e⟩ := s5 m
  rw [← Nat.add_assoc, e, stop]
def dd (D : List Int) (i : Nat) : Int := (D[i]?).getD 0
theorem at_dd {D : List Int} {i : Nat} (h : i < D.length) : at? D (i : Int) = some (dd D i) := by
  rw [at_nat]
  unfold dd
  rw [List.getElem?_eq_getElem h]
  rfl
theorem dd_mid {A B : List Int} {x : Int} {n : Nat} (h : n = A.length) : dd (A ++ x :: B) n = x := by
  subst h
  unfold dd
  simp
theorem dd_at {P X S : List Int} {i : Nat} (h : i < X.length) : dd (P ++ X ++ S) (P.length + i) = X[i] := by
  unfold dd
  rw [List.append_assoc, List.getElem?_append_right (by omega), show P.length + i - P.length = i by omega, List.getElem?_append_left h, List.getElem?_eq_getElem h]
  rfl
theorem cross {l : List TSGiven} (A B : List Int) (u v : Nat) (huA : u ≤ A.length) (hA : A.Pairwise (Before l)) (hB : B.Pairwise (Before l)) (h : ∀ (hu : u - 1 < A.length) (hv : v < B.length), 0 < u → Before l A[u - 1] B[v]) : ∀ x, x ∈ A.take u → ∀ y, y ∈ B.drop v → Before l x y := by
  intro x hx y hy
  obtain ⟨i, hi, rfl⟩ := List.mem_iff_getElem.1 hx
  obtain ⟨j, hj, rfl⟩ := List.mem_iff_getElem.1 hy
  rw [List.length_take] at hi
  rw [List.length_drop] at hj
  rw [List.getElem_take, List.getElem_drop]
  have h0 := h (by omega) (by omega) (by omega)
  have hA' := List.pairwise_iff_getElem.1 hA
  have hB' := List.pairwise_iff_getElem.1 hB
  have h1 : Before l A[i] B[v] := by
    by_cases hi' : i = u - 1
    · subst hi'; exact h0
    · exact before_trans (hA' i (u - 1) (by omega) (by omega) (by omega)) h0
  by_cases hj' : j = 0
  · subst hj'; exact h1
  · exact before_trans h1 (hB' v (v + j) (by omega) (by omega) (by omega))
theorem shift_up (l : List TSGiven) (i_ y : Int) (S : List Int) (K : List Int → Option (List Int)) : ∀ (X P : List Int), (P ++ y :: (X ++ S)).length < 1000 → i_ = ((P.length + X.length + 1 : Nat) : Int) → ∀ m,
    slices_symMergeCmpFunc_int_l1 i_ K (m + X.length + 1) (P ++ y :: (X ++ S)) (P.length : Int) = K (P ++ X ++ y :: S)
  | [], P, hl, hi, m => by
    simp only [List.length_append, List.length_cons, List.length_nil] at hl hi
    rw [slices_symMergeCmpFunc_int_l1, wi_id (by omega) (by omega), if_neg (by simp only [decide_eq_true_eq]; omega)]
    congr 1
    simp
  | x :: X, P, hl, hi, m => by
    simp only [List.length_append, List.length_cons] at hl hi
    rw [slices_symMergeCmpFunc_int_l1, wi_id (n := i_ - 1) (by omega) (by omega), if_pos (by simp only [decide_eq_true_eq]; omega), wi_id (by omega) (by omega)]
    have a1 : at? (P ++ y :: (x :: X ++ S)) ((P.length : Int) + 1) = some x := by
      have := at_mid (P ++ [y]) (X ++ S) x
      rw [List.length_append, List.length_singleton] at this
      simpa using this
    have a2 : at? (P ++ y :: (x :: X ++ S)) (P.length : Int) = some y := at_mid _ _ _
    have s1 : (P ++ y :: (x :: X ++ S)).set P.length x = P ++ x :: (x :: X ++ S) := by
      rw [List.set_append_right _ _ (Nat.le_refl _)]; simp
    have a3 : at? (P ++ x :: (x :: X ++ S)) ((P.length : Int) + 1) = some x := by
      have := at_mid (P ++ [x]) (X ++ S) x
      rw [List.length_append, List.length_singleton] at this
      simpa using this
    have s2 : (P ++ x :: (x :: X ++ S)).set (P.length + 1) y = (P ++ [x]) ++ y :: (X ++ S) := by
      rw [List.set_append_right _ _ (by omega)]; simp
    rw [a1, Option.bind_some, a2, Option.bind_some, Option.bind_some, Int.toNat_natCast, s1, a3, Option.bind_some, show ((P.length : Int) + 1).toNat = P.length + 1 by omega, s2]
    have := shift_up l i_ y S K X (P ++ [x]) (by simp only [List.length_append, List.length_cons, List.length_nil]; omega) (by simp only [List.length_append, List.length_cons, List.length_nil]; omega) m
    rw [List.length_append, List.length_singleton] at this
    rw [List.length_cons, show m + (X.length + 1) = m + X.length + 1 by omega, show (P.length : Int) + 1 = ((P.length + 1 : Nat) : Int) by omega, this]
    congr 1
    simp
theorem shift_down (l : List TSGiven) (x : Int) (P : List Int) (K : List Int → Option (List Int)) : ∀ (n : Nat) (X S : List Int), X.length = n → (P ++ X ++ x :: S).length < 1000 → ∀ m,
    slices_symMergeCmpFunc_int_l3 (P.length : Int) K (m + n + 1) (P ++ X ++ x :: S) ((P.length + n : Nat) : Int) = K (P ++ x :: (X ++ S))
  | 0, X, S, hn, hl, m => by
    obtain rfl := List.eq_nil_of_length_eq_zero hn
    rw [slices_symMergeCmpFunc_int_l3, if_neg (by simp)]
    congr 1
    simp
  | n + 1, X, S, hn, hl, m => by
    rcases List.eq_nil_or_concat X with rfl | ⟨X, y, rfl⟩
    · simp at hn
    · simp only [List.concat_eq_append, List.length_append, List.length_cons, List.length_nil] at hl hn
      rw [List.concat_eq_append]
      rw [slices_symMergeCmpFunc_int_l3, if_pos (by simp only [decide_eq_true_eq]; omega), wi_id (by omega) (by omega), show ((P.length + (n + 1) : Nat) : Int) - 1 = ((P.length + n : Nat) : Int) by omega]
      have hPX : P.length + n = (P ++ X).length := by rw [List.length_append]; omega
      have e0 : P ++ (X ++ [y]) ++ x :: S = (P ++ X) ++ y :: x :: S := by simp
      have a1 : at? ((P ++ X) ++ y :: x :: S) ((P ++ X).length : Int) = some y := at_mid _ _ _
      have a2 : at? ((P ++ X) ++ y :: x :: S) (((P ++ X).length + 1 : Nat) : Int) = some x := by
        have := at_mid (P ++ X ++ [y]) S x
        rw [List.length_append, List.length_singleton] at this
        simpa using this
      have hs := swap_set (P ++ X) S x y
      have a3 : at? (((P ++ X) ++ y :: x :: S).set ((P ++ X).length + 1) y) ((P ++ X).length : Int) = some y := by
        rw [at_nat, List.getElem?_set_ne (by omega), ← at_nat]; exact a1
      rw [e0, hPX, show P.length + (n + 1) = (P ++ X).length + 1 by rw [← hPX]; omega, a1, Option.bind_some, a2, Option.bind_some, Option.bind_some, Int.toNat_natCast, Int.toNat_natCast, a3, Option.bind_some, hs, ← hPX, show m + (n + 1) = m + n + 1 by omega]
      rw [shift_down l x P K n X (y :: S) (by omega) (by simp only [List.length_append, List.length_cons]; omega) m]
      congr 1
      simp
theorem merged_pairwise {l : List TSGiven} {A B : List Int} (u v : Nat) (hu : u ≤ A.length) (hv : v ≤ B.length) (hA : A.Pairwise (Before l)) (hB : B.Pairwise (Before l))
    (h1 : ∀ (h : u - 1 < A.length) (h' : v < B.length), 0 < u → Before l A[u - 1] B[v]) (h2 : ∀ (h : v - 1 < B.length) (h' : u < A.length), 0 < v → Before l B[v - 1] A[u])
    {C1 C2 : List Int} (p1 : C1.Perm (A.take u ++ B.take v)) (p2 : C2.Perm (A.drop u ++ B.drop v)) (s1 : C1.Pairwise (Before l)) (s2 : C2.Pairwise (Before l)) : (C1 ++ C2).Pairwise (Before l) := by
  rw [List.pairwise_append]
  refine ⟨s1, s2, fun x hx y hy => ?_⟩
  have hA' := hA
  have hB' := hB
  rw [← List.take_append_drop u A, List.pairwise_append] at hA'
  rw [← List.take_append_drop v B, List.pairwise_append] at hB'
  rcases List.mem_append.1 (p1.subset hx) with hx | hx
  · rcases List.mem_append.1 (p2.subset hy) with hy | hy
    · exact hA'.2.2 x hx y hy
    · exact cross A B u v hu hA hB h1 x hx y hy
  · rcases List.mem_append.1 (p2.subset hy) with hy | hy
    · exact cross B A v u hv hB hA h2 x hx y hy
    · exact hB'.2.2 x hx y hy
theorem merged_perm {A B : List Int} (u v : Nat) {C1 C2 : List Int} (p1 : C1.Perm (A.take u ++ B.take v)) (p2 : C2.Perm (A.drop u ++ B.drop v)) : (C1 ++ C2).Perm (A ++ B) := by
  refine (p1.append p2).trans ?_
  have e : A ++ B = A.take u ++ (A.drop u ++ (B.take v ++ B.drop v)) := by rw [List.take_append_drop, ← List.append_assoc, List.take_append_drop]
  rw [e]
  have e2 : A.take u ++ B.take v ++ (A.drop u ++ B.drop v) = A.take u ++ (B.take v ++ (A.drop u ++ B.drop v)) := by simp
  rw [e2]
  refine List.Perm.append_left _ ?_
  rw [← List.append_assoc, ← List.append_assoc]
  exact (List.perm_append_comm).append_right _
/-- the comparison of two places, the first from behind the second -/
theorem cmp_eq {l : List TSGiven} {x y : Int} (hx : 0 ≤ x ∧ x < l.length) (hy : 0 ≤ y ∧ y < l.length) (h : y < x) : ∃ c, cascade_Order_fn1 x y l = some c ∧ (c < 0 ↔ Before l x y) := by
  obtain ⟨c, h1, h2⟩ := fn1_eq l hx hy
  exact ⟨c, h1, h2.trans (before_of_gt h).symm⟩
def Merges (l : List TSGiven) (N : Nat) : Prop := ∀ pre A B post : List Int, A.length + B.length ≤ N → 0 < A.length → 0 < B.length → A.Pairwise (Before l) → B.Pairwise (Before l) → (∀ p, p ∈ A → ∀ q, q ∈ B → p < q) → (∀ p, p ∈ A ++ B → 0 ≤ p ∧ p < l.length) → (pre ++ A ++ B ++ post).length < 1000 →
  ∃ C, C.Perm (A ++ B) ∧ C.Pairwise (Before l) ∧ ∀ k, slices_symMergeCmpFunc_int_r (k + N) (pre ++ A ++ B ++ post) (pre.length : Int) ((pre.length + A.length : Nat) : Int) ((pre.length + A.length + B.length : Nat) : Int) l = some (pre ++ C ++ post)
theorem merge_one_left (l : List TSGiven) (N : Nat) (pre B post : List Int) (y : Int) (hb : 0 < B.length) (hB : B.Pairwise (Before l)) (hlt : ∀ q, q ∈ B → y < q) (hr : ∀ p, p ∈ y :: B → 0 ≤ p ∧ p < l.length) (hl : (pre ++ [y] ++ B ++ post).length < 1000) :
    ∃ C, C.Perm ([y] ++ B) ∧ C.Pairwise (Before l) ∧ ∀ k, slices_symMergeCmpFunc_int_r (k + 1) (pre ++ [y] ++ B ++ post) (pre.length : Int) ((pre.length + 1 : Nat) : Int) ((pre.length + 1 + B.length : Nat) : Int) l = some (pre ++ C ++ post) := by
  have hlen : pre.length + 1 + B.length + post.length < 1000 := by simp at hl; omega
  have hDl : (pre ++ [y] ++ B ++ post).length = pre.length + 1 + B.length + post.length := by simp; omega
  have hya : at? (pre ++ [y] ++ B ++ post) (pre.length : Int) = some y := by
    have := at_mid pre (B ++ post) y
    simpa using this
  have hdB : ∀ i (h : i < B.length), dd (pre ++ [y] ++ B ++ post) (pre.length + 1 + i) = B[i] := by
    intro i h
    have := dd_at (P := pre ++ [y]) (X := B) (S := post) h
    rw [List.length_append, List.length_singleton] at this
    exact this
  obtain ⟨s, s1, s2, s3, s4, s5⟩ := bsearch_eq (fun k i j => slices_symMergeCmpFunc_int_l0 (pre ++ [y] ++ B ++ post) (pre.length : Int) l (fun (i_1 : Int) => 
          lim fun kk => slices_symMergeCmpFunc_int_l1 i_1 (fun (data2 : (List Int)) => 
              some data2) kk (pre ++ [y] ++ B ++ post) (pre.length : Int)) k i j) (fun (i_1 : Int) => 
          lim fun kk => slices_symMergeCmpFunc_int_l1 i_1 (fun (data2 : (List Int)) => 
              some data2) kk (pre ++ [y] ++ B ++ post) (pre.length : Int)) (fun c => ¬ Before l (dd (pre ++ [y] ++ B ++ post) c) y) (pre.length + 1) (pre.length + 1 + B.length) (by omega) (fun m i => by
      show slices_symMergeCmpFunc_int_l0 _ _ _ _ (m + 1) _ _ = _
      rw [slices_symMergeCmpFunc_int_l0, if_neg (by simp)]) (fun m i j h1 h2 h3 => by
      show (_ ∧ slices_symMergeCmpFunc_int_l0 _ _ _ _ (m + 1) _ _ = _) ∨ (_ ∧ slices_symMergeCmpFunc_int_l0 _ _ _ _ (m + 1) _ _ = _)
      rw [slices_symMergeCmpFunc_int_l0, if_pos (by simp only [decide_eq_true_eq]; omega), mid_eq (by omega), at_dd (by omega), Option.bind_some, hya, Option.bind_some]
      obtain ⟨w, hw⟩ : ∃ w, (i + j) / 2 = pre.length + 1 + w := ⟨(i + j) / 2 - (pre.length + 1), by omega⟩
      have hwB : w < B.length := by omega
      have hm : B[w] ∈ B := List.getElem_mem hwB
      have hd := hdB w hwB
      rw [hw, hd]
      obtain ⟨c, c1, c2⟩ := cmp_eq (l := l) (x := B[w]) (y := y) (hr _ (List.mem_cons_of_mem _ hm)) (hr _ List.mem_cons_self) (hlt _ hm)
      rw [c1, Option.bind_some]
      by_cases hc : c < 0
      · refine .inr ⟨fun h => h (c2.1 hc), ?_⟩
        rw [if_pos (by simpa using hc), wi_id (by omega) (by omega)]
        congr 1
      · refine .inl ⟨fun h => hc (c2.2 h), ?_⟩
        rw [if_neg (by simpa using hc)])
  obtain ⟨u, rfl⟩ : ∃ u, s = pre.length + 1 + u := ⟨s - (pre.length + 1), by omega⟩
  have hu : u ≤ B.length := by omega
  have hlast : ∀ (h : u - 1 < B.length) (h' : 0 < 1), 0 < u → Before l B[u - 1] y := by
    intro h _ h0
    have := s3 (by omega)
    rw [show pre.length + 1 + u - 1 = pre.length + 1 + (u - 1) by omega, hdB _ h] at this
    exact Classical.not_not.1 this
  have hfirst : ∀ (h : u < B.length), Before l y B[u] := by
    intro h
    have := s4 (by omega)
    rw [hdB _ h] at this
    have hne : y ≠ B[u] := by have := hlt _ (List.getElem_mem h); omega
    rcases before_total l hne with h' | h'
    · exact h'
    · exact absurd h' this
  have hp : (B.take u ++ [y] ++ B.drop u).Perm ([y] ++ B) := by
    refine (List.perm_append_comm.append_right (B.drop u)).trans ?_
    rw [List.append_assoc, List.take_append_drop]
  refine ⟨B.take u ++ [y] ++ B.drop u, hp, ?_, fun k => ?_⟩
  · rw [List.append_assoc, List.pairwise_append]
    refine ⟨hB.sublist (List.take_sublist _ _), ?_, ?_⟩
    · rw [List.singleton_append, List.pairwise_cons]
      refine ⟨fun q hq => ?_, hB.sublist (List.drop_sublist _ _)⟩
      exact cross [y] B 1 u (by simp) (List.pairwise_singleton _ _) hB (fun _ h _ => hfirst h) y (by simp) q hq
    · intro p hpm q hq
      rw [List.singleton_append, List.mem_cons] at hq
      have hpy : Before l p y := cross B [y] u 0 hu hB (List.pairwise_singleton _ _) (fun h h' h0 => hlast h (by omega) h0) p hpm y (by simp)
      rcases hq with rfl | hq
      · exact hpy
      · exact before_trans hpy (cross [y] B 1 u (by simp) (List.pairwise_singleton _ _) hB (fun _ h _ => hfirst h) y (by simp) q hq)
  · rw [slices_symMergeCmpFunc_int_r, if_pos (by rw [wi_id (by omega) (by omega)]; simp only [decide_eq_true_eq]; omega)]
    refine lim_add (pre.length + 1 + B.length - (pre.length + 1) + 1) fun m => (s5 m).trans ?_
    refine lim_add (u + 1) fun m2 => ?_
    have e : pre ++ [y] ++ B ++ post = pre ++ y :: (B.take u ++ (B.drop u ++ post)) := by
      rw [← List.append_assoc (B.take u), List.take_append_drop]; simp
    have hul : (B.take u).length = u := by rw [List.length_take]; omega
    have := shift_up l ((pre.length + 1 + u : Nat) : Int) y (B.drop u ++ post) (fun data2 => some data2) (B.take u) pre (by rw [← e]; exact hl) (by rw [hul]; omega) m2
    rw [hul] at this
    rw [e, ← Nat.add_assoc, this]
    congr 1
    simp
theorem merge_one_right (l : List TSGiven) (N : Nat) (pre A post : List Int) (x : Int) (ha : 1 < A.length) (hA : A.Pairwise (Before l)) (hlt : ∀ q, q ∈ A → q < x) (hr : ∀ p, p ∈ A ++ [x] → 0 ≤ p ∧ p < l.length) (hl : (pre ++ A ++ [x] ++ post).length < 1000) :
    ∃ C, C.Perm (A ++ [x]) ∧ C.Pairwise (Before l) ∧ ∀ k, slices_symMergeCmpFunc_int_r (k + 1) (pre ++ A ++ [x] ++ post) (pre.length : Int) ((pre.length + A.length : Nat) : Int) ((pre.length + A.length + 1 : Nat) : Int) l = some (pre ++ C ++ post) := by
  have hlen : pre.length + A.length + 1 + post.length < 1000 := by simp at hl; omega
  have hDl : (pre ++ A ++ [x] ++ post).length = pre.length + A.length + 1 + post.length := by simp; omega
  have hxa : at? (pre ++ A ++ [x] ++ post) ((pre.length + A.length : Nat) : Int) = some x := by
    have := at_mid (pre ++ A) post x
    rw [List.length_append] at this
    simpa using this
  have hdA : ∀ i (h : i < A.length), dd (pre ++ A ++ [x] ++ post) (pre.length + i) = A[i] := by
    intro i h
    have := dd_at (P := pre) (X := A) (S := [x] ++ post) h
    rw [← List.append_assoc] at this
    exact this
  obtain ⟨s, s1, s2, s3, s4, s5⟩ := bsearch_eq (fun k i j => slices_symMergeCmpFunc_int_l2 (pre ++ A ++ [x] ++ post) ((pre.length + A.length : Nat) : Int) l (fun (i_3 : Int) => 
            lim fun kk2 => slices_symMergeCmpFunc_int_l3 i_3 (fun (data4 : (List Int)) => 
                some data4) kk2 (pre ++ A ++ [x] ++ post) ((pre.length + A.length : Nat) : Int)) k i j) (fun (i_3 : Int) => 
            lim fun kk2 => slices_symMergeCmpFunc_int_l3 i_3 (fun (data4 : (List Int)) => 
                some data4) kk2 (pre ++ A ++ [x] ++ post) ((pre.length + A.length : Nat) : Int)) (fun c => Before l x (dd (pre ++ A ++ [x] ++ post) c)) pre.length (pre.length + A.length) (by omega) (fun m i => by
      show slices_symMergeCmpFunc_int_l2 _ _ _ _ (m + 1) _ _ = _
      rw [slices_symMergeCmpFunc_int_l2, if_neg (by simp)]) (fun m i j h1 h2 h3 => by
      show (_ ∧ slices_symMergeCmpFunc_int_l2 _ _ _ _ (m + 1) _ _ = _) ∨ (_ ∧ slices_symMergeCmpFunc_int_l2 _ _ _ _ (m + 1) _ _ = _)
      rw [slices_symMergeCmpFunc_int_l2, if_pos (by simp only [decide_eq_true_eq]; omega), mid_eq (by omega), hxa, Option.bind_some, at_dd (by omega), Option.bind_some]
      obtain ⟨w, hw⟩ : ∃ w, (i + j) / 2 = pre.length + w := ⟨(i + j) / 2 - pre.length, by omega⟩
      have hwA : w < A.length := by omega
      have hm : A[w] ∈ A := List.getElem_mem hwA
      have hd := hdA w hwA
      rw [hw, hd]
      obtain ⟨c, c1, c2⟩ := cmp_eq (l := l) (x := x) (y := A[w]) (hr _ (by simp)) (hr _ (by simp [hm])) (hlt _ hm)
      rw [c1, Option.bind_some]
      by_cases hc : c < 0
      · refine .inl ⟨c2.1 hc, ?_⟩
        rw [if_neg (by simpa using hc)]
      · refine .inr ⟨fun h => hc (c2.2 h), ?_⟩
        rw [if_pos (by simpa using hc), wi_id (by omega) (by omega)]
        congr 1)
  obtain ⟨u, rfl⟩ : ∃ u, s = pre.length + u := ⟨s - pre.length, by omega⟩
  have hu : u ≤ A.length := by omega
  have hlast : ∀ (h : u - 1 < A.length), 0 < u → Before l A[u - 1] x := by
    intro h h0
    have := s3 (by omega)
    rw [show pre.length + u - 1 = pre.length + (u - 1) by omega, hdA _ h] at this
    have hne : A[u - 1] ≠ x := by have := hlt _ (List.getElem_mem h); omega
    rcases before_total l hne with h' | h'
    · exact h'
    · exact absurd h' this
  have hfirst : ∀ (h : u < A.length), Before l x A[u] := by
    intro h
    have := s4 (by omega)
    rw [hdA _ h] at this
    exact this
  have hp : (A.take u ++ [x] ++ A.drop u).Perm (A ++ [x]) := by
    rw [List.append_assoc]
    refine (List.Perm.append_left _ List.perm_append_comm).trans ?_
    rw [← List.append_assoc, List.take_append_drop]
  refine ⟨A.take u ++ [x] ++ A.drop u, hp, ?_, fun k => ?_⟩
  · rw [List.append_assoc, List.pairwise_append]
    refine ⟨hA.sublist (List.take_sublist _ _), ?_, ?_⟩
    · rw [List.singleton_append, List.pairwise_cons]
      refine ⟨fun q hq => ?_, hA.sublist (List.drop_sublist _ _)⟩
      exact cross [x] A 1 u (by simp) (List.pairwise_singleton _ _) hA (fun _ h _ => hfirst h) x (by simp) q hq
    · intro p hpm q hq
      rw [List.singleton_append, List.mem_cons] at hq
      have hpy : Before l p x := cross A [x] u 0 hu hA (List.pairwise_singleton _ _) (fun h h' h0 => hlast h h0) p hpm x (by simp)
      rcases hq with rfl | hq
      · exact hpy
      · exact before_trans hpy (cross [x] A 1 u (by simp) (List.pairwise_singleton _ _) hA (fun _ h _ => hfirst h) x (by simp) q hq)
  · rw [slices_symMergeCmpFunc_int_r, if_neg (by rw [wi_id (by omega) (by omega)]; simp only [decide_eq_true_eq]; omega), if_pos (by rw [wi_id (by omega) (by omega)]; simp only [decide_eq_true_eq]; omega)]
    refine lim_add (pre.length + A.length - pre.length + 1) fun m => (s5 m).trans ?_
    refine lim_add (A.length - u + 1) fun m2 => ?_
    have e : pre ++ A ++ [x] ++ post = (pre ++ A.take u) ++ A.drop u ++ x :: post := by
      rw [List.append_assoc pre (A.take u), List.take_append_drop]; simp
    have hul : (pre ++ A.take u).length = pre.length + u := by rw [List.length_append, List.length_take]; omega
    have := shift_down l x (pre ++ A.take u) (fun data4 => some data4) (A.length - u) (A.drop u) post (by rw [List.length_drop]) (by rw [← e]; exact hl) m2
    rw [hul, show pre.length + u + (A.length - u) = pre.length + A.length by omega] at this
    rw [e, ← Nat.add_assoc, this]
    congr 1
    simp
theorem merges_all (l : List TSGiven) : ∀ N, Merges l N
  | 0 => fun pre A B post hN ha hb => by omega
  | N + 1 => fun pre A B post hN ha hb hA hB hlt hr hl => by
    have hlen : pre.length + A.length + B.length + post.length < 1000 := by simp at hl; omega
    by_cases h1 : A.length = 1
    · obtain ⟨y, rfl⟩ := List.length_eq_one_iff.1 h1
      obtain ⟨C, c1, c2, c3⟩ := merge_one_left l N pre B post y hb hB (fun q hq => hlt y (by simp) q hq) (fun p hp => hr p (by simpa using hp)) hl
      exact ⟨C, c1, c2, fun k => by rw [← Nat.add_assoc]; exact c3 (k + N)⟩
    by_cases h2 : B.length = 1
    · obtain ⟨x, rfl⟩ := List.length_eq_one_iff.1 h2
      obtain ⟨C, c1, c2, c3⟩ := merge_one_right l N pre A post x (by omega) hA (fun q hq => hlt q hq x (by simp)) hr hl
      exact ⟨C, c1, c2, fun k => by rw [← Nat.add_assoc]; exact c3 (k + N)⟩
    -- the general case
    obtain ⟨D, hD⟩ : ∃ D, pre ++ A ++ B ++ post = D := ⟨_, rfl⟩
    have hDl : D.length = pre.length + A.length + B.length + post.length := by rw [← hD]; simp; omega
    have hdA : ∀ i (h : i < A.length), dd D (pre.length + i) = A[i] := by
      intro i h
      have := dd_at (P := pre) (X := A) (S := B ++ post) h
      rw [← hD, ← this]; congr 1; simp
    have hdB : ∀ i (h : i < B.length), dd D (pre.length + A.length + i) = B[i] := by
      intro i h
      have := dd_at (P := pre ++ A) (X := B) (S := post) h
      rw [List.length_append] at this
      rw [← hD, ← this]
    obtain ⟨a, ea⟩ : ∃ a, pre.length = a := ⟨_, rfl⟩
    obtain ⟨la, ela⟩ : ∃ la, A.length = la := ⟨_, rfl⟩
    obtain ⟨lb, elb⟩ : ∃ lb, B.length = lb := ⟨_, rfl⟩
    obtain ⟨mid, emid⟩ : ∃ mid, (a + (a + la + lb)) / 2 = mid := ⟨_, rfl⟩
    rw [ea] at hdA hdB hDl hlen
    rw [ela] at hdB hDl hlen hN ha h1
    rw [elb] at hDl hlen hN hb h2
    have hmid : wr .i64 (shr .u64 (wr .u64 (wi ((a : Int) + ((a + la + lb : Nat) : Int)))) 1) = (mid : Int) := by rw [mid_eq (by omega), emid]
    -- the search
    have search : ∀ (st0 r0 : Nat) (K : Int → Option (List Int)), st0 ≤ r0 → a ≤ st0 → r0 ≤ a + la → r0 ≤ mid → mid + (a + la) ≤ st0 + (a + la + lb) → (∀ c, c < r0 → a + la ≤ mid + (a + la) - 1 - c) →
        ∃ s, st0 ≤ s ∧ s ≤ r0 ∧ (st0 < s → ¬ Before l (dd D (mid + (a + la) - 1 - (s - 1))) (dd D (s - 1))) ∧ (s < r0 → Before l (dd D (mid + (a + la) - 1 - s)) (dd D s)) ∧
          ∀ m, slices_symMergeCmpFunc_int_l4 (a : Int) ((a + la + lb : Nat) : Int) ((a + la : Nat) : Int) D l K (m + (r0 - st0 + 1)) (st0 : Int) (r0 : Int) = K (s : Int) := by
      intro st0 r0 K h0 hs hr1 hr2 hr3 hr4
      refine bsearch_eq (fun k i j => slices_symMergeCmpFunc_int_l4 (a : Int) ((a + la + lb : Nat) : Int) ((a + la : Nat) : Int) D l K k i j) K (fun c => Before l (dd D (mid + (a + la) - 1 - c)) (dd D c)) st0 r0 h0 (fun m i => by
        show slices_symMergeCmpFunc_int_l4 _ _ _ _ _ _ (m + 1) _ _ = _
        rw [slices_symMergeCmpFunc_int_l4, if_neg (by simp)]) (fun m i j g1 g2 g3 => ?_)
      show (_ ∧ slices_symMergeCmpFunc_int_l4 _ _ _ _ _ _ (m + 1) _ _ = _) ∨ (_ ∧ slices_symMergeCmpFunc_int_l4 _ _ _ _ _ _ (m + 1) _ _ = _)
      obtain ⟨c, ec⟩ : ∃ c, (i + j) / 2 = c := ⟨_, rfl⟩
      have hc1 : c < r0 := by omega
      have hc2 := hr4 c hc1
      rw [slices_symMergeCmpFunc_int_l4, if_pos (by simp only [decide_eq_true_eq]; omega), hmid, mid_eq (by omega), ec, letIn_eq, wi_id (n := (mid : Int) + ((a + la : Nat) : Int)) (by omega) (by omega), wi_id (n := (mid : Int) + ((a + la : Nat) : Int) - 1) (by omega) (by omega), wi_id (n := (mid : Int) + ((a + la : Nat) : Int) - 1 - (c : Int)) (by omega) (by omega), show (mid : Int) + ((a + la : Nat) : Int) - 1 - (c : Int) = ((mid + (a + la) - 1 - c : Nat) : Int) by omega, at_dd (by omega), Option.bind_some, at_dd (by omega), Option.bind_some]
      obtain ⟨w, hw⟩ : ∃ w, mid + (a + la) - 1 - c = a + la + w := ⟨mid + (a + la) - 1 - c - (a + la), by omega⟩
      obtain ⟨v, hv⟩ : ∃ v, c = a + v := ⟨c - a, by omega⟩
      have hwB : w < B.length := by omega
      have hvA : v < A.length := by omega
      have e1 := hdB w (by omega)
      have e2 := hdA v (by omega)
      rw [hw, e1, hv, e2]
      have m1 : B[w] ∈ B := List.getElem_mem hwB
      have m2 : A[v] ∈ A := List.getElem_mem hvA
      obtain ⟨q, c1, c2⟩ := cmp_eq (l := l) (x := B[w]) (y := A[v]) (hr _ (List.mem_append_right _ m1)) (hr _ (List.mem_append_left _ m2)) (hlt _ m2 _ m1)
      rw [c1, Option.bind_some]
      by_cases hc : q < 0
      · refine .inl ⟨c2.1 hc, ?_⟩
        rw [if_neg (by simpa using hc)]
      · refine .inr ⟨fun h => hc (c2.2 h), ?_⟩
        rw [if_pos (by simpa using hc), wi_id (by omega) (by omega)]
        congr 1
    -- what comes behind the search
    have rest : ∀ (s : Nat), a ≤ s → s ≤ a + la → s ≤ mid → mid + (a + la) ≤ s + (a + la + lb) →
        (∀ (h : s - a - 1 < A.length) (h' : mid - s < B.length), 0 < s - a → Before l A[s - a - 1] B[mid - s]) → (∀ (h : mid - s - 1 < B.length) (h' : s - a < A.length), 0 < mid - s → Before l B[mid - s - 1] A[s - a]) →
        ∃ C, C.Perm (A ++ B) ∧ C.Pairwise (Before l) ∧ ∀ k,
          (letIn (wi ((wi ((wr .i64 (shr .u64 (wr .u64 (wi ((a : Int) + ((a + la + lb : Nat) : Int)))) 1)) + ((a + la : Nat) : Int))) - (s : Int))) fun v177 : Int =>
      if ((decide ((s : Int) < ((a + la : Nat) : Int))) && (decide (((a + la : Nat) : Int) < v177))) then
        (slices_rotateCmpFunc_int D (s : Int) ((a + la : Nat) : Int) v177 l).bind fun r_7 =>
        guardLen D r_7 <|
        slices_symMergeCmpFunc_int_j2 (a : Int) (s : Int) ((a + la + lb : Nat) : Int) (slices_symMergeCmpFunc_int_r (k + N)) l v177 r_7
      else
        slices_symMergeCmpFunc_int_j2 (a : Int) (s : Int) ((a + la + lb : Nat) : Int) (slices_symMergeCmpFunc_int_r (k + N)) l v177 D) = some (pre ++ C ++ post) := by
      intro s g1 g2 g3 g4 b1 b2
      obtain ⟨u, eu⟩ : ∃ u, s = a + u := ⟨s - a, by omega⟩
      obtain ⟨v, ev⟩ : ∃ v, mid = s + v := ⟨mid - s, by omega⟩
      have hu : u ≤ A.length := by omega
      have hv : v ≤ B.length := by omega
      have tA : (A.take u).length = u := by rw [List.length_take]; omega
      have dA : (A.drop u).length = la - u := by rw [List.length_drop]; omega
      have tB : (B.take v).length = v := by rw [List.length_take]; omega
      have dB : (B.drop v).length = lb - v := by rw [List.length_drop]; omega
      have hsub : ∀ p, p ∈ A.take u ++ B.take v → p ∈ A ++ B := fun p hp => by
        rcases List.mem_append.1 hp with h | h
        · exact List.mem_append_left _ (List.mem_of_mem_take h)
        · exact List.mem_append_right _ (List.mem_of_mem_take h)
      have hsub2 : ∀ p, p ∈ A.drop u ++ B.drop v → p ∈ A ++ B := fun p hp => by
        rcases List.mem_append.1 hp with h | h
        · exact List.mem_append_left _ (List.mem_of_mem_drop h)
        · exact List.mem_append_right _ (List.mem_of_mem_drop h)
      -- the first half
      have half1 : ∃ C1, C1.Perm (A.take u ++ B.take v) ∧ C1.Pairwise (Before l) ∧ ∀ k (G : List Int → Option (List Int)),
          (if ((decide ((a : Int) < (s : Int))) && (decide ((s : Int) < (mid : Int)))) then
            (slices_symMergeCmpFunc_int_r (k + N) (pre ++ A.take u ++ B.take v ++ (A.drop u ++ B.drop v ++ post)) (a : Int) (s : Int) (mid : Int) l).bind fun r_6 =>
            guardLen (pre ++ A.take u ++ B.take v ++ (A.drop u ++ B.drop v ++ post)) r_6 <| G r_6
           else G (pre ++ A.take u ++ B.take v ++ (A.drop u ++ B.drop v ++ post))) = G (pre ++ C1 ++ (A.drop u ++ B.drop v ++ post)) := by
        by_cases hc : 0 < u ∧ 0 < v
        · obtain ⟨C1, p1, s1, f1⟩ := merges_all l N pre (A.take u) (B.take v) (A.drop u ++ B.drop v ++ post) (by omega) (by omega) (by omega) (hA.sublist (List.take_sublist _ _)) (hB.sublist (List.take_sublist _ _)) (fun p hp q hq => hlt p (List.mem_of_mem_take hp) q (List.mem_of_mem_take hq)) (fun p hp => hr p (hsub p hp)) (by simp only [List.length_append, tA, tB, dA, dB]; omega)
          refine ⟨C1, p1, s1, fun k G => ?_⟩
          have f := f1 k
          rw [tA, tB, ea] at f
          rw [if_pos (by simp; omega), eu, show mid = a + u + v by omega, f, Option.bind_some, guard_eq (by simp only [List.length_append, p1.length_eq]; omega)]
        · refine ⟨A.take u ++ B.take v, List.Perm.refl _, ?_, fun k G => ?_⟩
          · rcases Nat.eq_zero_or_pos u with h | h
            · subst h; rw [List.take_zero, List.nil_append]; exact hB.sublist (List.take_sublist _ _)
            · obtain rfl : v = 0 := by omega
              rw [List.take_zero, List.append_nil]; exact hA.sublist (List.take_sublist _ _)
          · rw [if_neg (by simp; omega)]
            congr 1
            simp
      have half2 : ∃ C2, C2.Perm (A.drop u ++ B.drop v) ∧ C2.Pairwise (Before l) ∧ ∀ k (C1 : List Int), C1.length = u + v →
          slices_symMergeCmpFunc_int_j3 (a : Int) ((a + la + lb : Nat) : Int) ((a + la + v : Nat) : Int) (slices_symMergeCmpFunc_int_r (k + N)) l (pre ++ C1 ++ (A.drop u ++ B.drop v ++ post)) = some (pre ++ (C1 ++ C2) ++ post) := by
        by_cases hc : 0 < la - u ∧ 0 < lb - v
        · have hex := fun (C1 : List Int) (hC1 : C1.length = u + v) => merges_all l N (pre ++ C1) (A.drop u) (B.drop v) post (by omega) (by omega) (by omega) (hA.sublist (List.drop_sublist _ _)) (hB.sublist (List.drop_sublist _ _)) (fun p hp q hq => hlt p (List.mem_of_mem_drop hp) q (List.mem_of_mem_drop hq)) (fun p hp => hr p (hsub2 p hp)) (by simp only [List.length_append, dA, dB, hC1]; omega)
          obtain ⟨C2, p2, s2, _⟩ := hex (A.take u ++ B.take v) (by simp only [List.length_append, tA, tB])
          refine ⟨C2, p2, s2, fun k C1 hC1 => ?_⟩
          obtain ⟨C2', p2', s2', f2⟩ := hex C1 hC1
          obtain rfl : C2' = C2 := sorted_unique l (p2'.trans p2.symm) s2' s2
          have f := f2 k
          rw [dA, dB, List.length_append, hC1, ea, show a + (u + v) = mid by omega, show mid + (la - u) = a + la + v by omega, show a + la + v + (lb - v) = a + la + lb by omega] at f
          unfold slices_symMergeCmpFunc_int_j3
          rw [hmid, if_pos (by simp; omega)]
          rw [show pre ++ C1 ++ (A.drop u ++ B.drop v ++ post) = pre ++ C1 ++ A.drop u ++ B.drop v ++ post by simp, f, Option.bind_some, guard_eq (by simp only [List.length_append, p2.length_eq]; omega)]
          congr 1
          simp
        · refine ⟨A.drop u ++ B.drop v, List.Perm.refl _, ?_, fun k C1 hC1 => ?_⟩
          · rcases Nat.eq_zero_or_pos (la - u) with h | h
            · rw [List.drop_eq_nil_of_le (by omega), List.nil_append]; exact hB.sublist (List.drop_sublist _ _)
            · rw [List.drop_eq_nil_of_le («as» := B) (by omega), List.append_nil]; exact hA.sublist (List.drop_sublist _ _)
          · unfold slices_symMergeCmpFunc_int_j3
            rw [hmid, if_neg (by simp; omega)]
            congr 1
            simp
      obtain ⟨C1, p1, s1, f1⟩ := half1
      obtain ⟨C2, p2, s2, f2⟩ := half2
      have hC1 : C1.length = u + v := by rw [p1.length_eq, List.length_append, tA, tB]
      refine ⟨C1 ++ C2, merged_perm u v p1 p2, merged_pairwise u v hu hv hA hB ?_ ?_ p1 p2 s1 s2, fun k => ?_⟩
      · intro h h' h0
        have := b1 (by omega) (by omega) (by omega)
        simpa only [show s - a = u by omega, show mid - s = v by omega] using this
      · intro h h' h0
        have := b2 (by omega) (by omega) (by omega)
        simpa only [show s - a = u by omega, show mid - s = v by omega] using this
      · rw [letIn_eq, hmid, wi_id (n := (mid : Int) + ((a + la : Nat) : Int)) (by omega) (by omega), wi_id (by omega) (by omega), show (mid : Int) + ((a + la : Nat) : Int) - (s : Int) = ((a + la + v : Nat) : Int) by omega]
        have hrot : (if ((decide ((s : Int) < ((a + la : Nat) : Int))) && (decide (((a + la : Nat) : Int) < ((a + la + v : Nat) : Int)))) then
        (slices_rotateCmpFunc_int D (s : Int) ((a + la : Nat) : Int) ((a + la + v : Nat) : Int) l).bind fun r_7 =>
        guardLen D r_7 <|
        slices_symMergeCmpFunc_int_j2 (a : Int) (s : Int) ((a + la + lb : Nat) : Int) (slices_symMergeCmpFunc_int_r (k + N)) l ((a + la + v : Nat) : Int) r_7
      else
        slices_symMergeCmpFunc_int_j2 (a : Int) (s : Int) ((a + la + lb : Nat) : Int) (slices_symMergeCmpFunc_int_r (k + N)) l ((a + la + v : Nat) : Int) D) = slices_symMergeCmpFunc_int_j2 (a : Int) (s : Int) ((a + la + lb : Nat) : Int) (slices_symMergeCmpFunc_int_r (k + N)) l ((a + la + v : Nat) : Int) (pre ++ A.take u ++ B.take v ++ (A.drop u ++ B.drop v ++ post)) := by
          have eD : D = pre ++ A.take u ++ A.drop u ++ B.take v ++ (B.drop v ++ post) := by
            have e1 : pre ++ A ++ B ++ post = (pre ++ (A.take u ++ A.drop u)) ++ (B.take v ++ B.drop v) ++ post := by rw [List.take_append_drop, List.take_append_drop]
            rw [← hD, e1]
            simp only [List.append_assoc]
          by_cases hc : 0 < la - u ∧ 0 < v
          · have := rotate_eq (pre ++ A.take u) (A.drop u) (B.take v) (B.drop v ++ post) l (by omega) (by omega) (by rw [← eD]; omega)
            rw [← eD, List.length_append, tA, dA, tB, ea, ← eu, show s + (la - u) = a + la by omega] at this
            rw [if_pos (by simp; omega), this, Option.bind_some, guard_eq (by rw [eD]; simp only [List.length_append]; omega)]
            congr 1
            simp
          · rw [if_neg (by simp; omega)]
            congr 1
            rw [eD]
            rcases Nat.eq_zero_or_pos (la - u) with h | h
            · rw [List.drop_eq_nil_of_le (i := u) (by omega)]; simp only [List.append_nil, List.nil_append, List.append_assoc]
            · obtain rfl : v = 0 := by omega
              simp only [List.take_zero, List.append_nil, List.nil_append, List.append_assoc]
        refine hrot.trans ?_
        unfold slices_symMergeCmpFunc_int_j2
        rw [hmid]
        rw [f1 k (fun r => slices_symMergeCmpFunc_int_j3 (a : Int) ((a + la + lb : Nat) : Int) ((a + la + v : Nat) : Int) (slices_symMergeCmpFunc_int_r (k + N)) l r)]
        exact f2 k C1 hC1
    -- joined
    have start : ∃ st0 r0, st0 ≤ r0 ∧ a ≤ st0 ∧ r0 ≤ a + la ∧ r0 ≤ mid ∧ mid + (a + la) ≤ st0 + (a + la + lb) ∧ (∀ c, c < r0 → a + la ≤ mid + (a + la) - 1 - c) ∧ (a = st0 ∨ mid + (a + la) = st0 + (a + la + lb)) ∧ (r0 = a + la ∨ r0 = mid) ∧
        ∀ k, slices_symMergeCmpFunc_int_r (k + N + 1) D (a : Int) ((a + la : Nat) : Int) ((a + la + lb : Nat) : Int) l = slices_symMergeCmpFunc_int_j1 (a : Int) ((a + la + lb : Nat) : Int) ((a + la : Nat) : Int) l (slices_symMergeCmpFunc_int_r (k + N)) D (st0 : Int) (r0 : Int) := by
      by_cases hm : mid < a + la
      · refine ⟨mid + (a + la) - (a + la + lb), mid, by omega, by omega, by omega, by omega, by omega, fun c hc => by omega, .inr (by omega), .inr rfl, fun k => ?_⟩
        rw [slices_symMergeCmpFunc_int_r, if_neg (by rw [wi_id (by omega) (by omega)]; simp only [decide_eq_true_eq]; omega), if_neg (by rw [wi_id (by omega) (by omega)]; simp only [decide_eq_true_eq]; omega), hmid, if_pos (by simp only [decide_eq_true_eq]; omega), wi_id (n := (mid : Int) + ((a + la : Nat) : Int)) (by omega) (by omega), wi_id (by omega) (by omega)]
        congr 1
        omega
      · refine ⟨a, a + la, by omega, by omega, by omega, by omega, by omega, fun c hc => by omega, .inl rfl, .inl rfl, fun k => ?_⟩
        rw [slices_symMergeCmpFunc_int_r, if_neg (by rw [wi_id (by omega) (by omega)]; simp only [decide_eq_true_eq]; omega), if_neg (by rw [wi_id (by omega) (by omega)]; simp only [decide_eq_true_eq]; omega), hmid, if_neg (by simp only [decide_eq_true_eq]; omega)]
    obtain ⟨st0, r0, k1, k2, k3, k4, k5, k6, k7, k8, k9⟩ := start
    -- the search comes to the same place whatever comes behind it
    obtain ⟨s, q1, q2, q3, q4, _⟩ := search st0 r0 (fun _ => none) k1 k2 k3 k4 k5 k6
    have hb1 : ∀ (s : Nat), st0 ≤ s → s ≤ r0 → (st0 < s → ¬ Before l (dd D (mid + (a + la) - 1 - (s - 1))) (dd D (s - 1))) → ∀ (h : s - a - 1 < A.length) (h' : mid - s < B.length), 0 < s - a → Before l A[s - a - 1] B[mid - s] := by
      intro s q1 q2 q3 h h' h0
      have := q3 (by omega)
      rw [show mid + (a + la) - 1 - (s - 1) = a + la + (mid - s) by omega, hdB _ (by omega), show s - 1 = a + (s - a - 1) by omega, hdA _ (by omega)] at this
      have hne : A[s - a - 1] ≠ B[mid - s] := by have := hlt _ (List.getElem_mem h) _ (List.getElem_mem h'); omega
      rcases before_total l hne with h | h
      · exact h
      · exact absurd h this
    have hb2 : ∀ (s : Nat), st0 ≤ s → s ≤ r0 → (s < r0 → Before l (dd D (mid + (a + la) - 1 - s)) (dd D s)) → ∀ (h : mid - s - 1 < B.length) (h' : s - a < A.length), 0 < mid - s → Before l B[mid - s - 1] A[s - a] := by
      intro s q1 q2 q4 h h' h0
      have := q4 (by omega)
      have e := hdA (s - a) (by omega)
      rw [show a + (s - a) = s by omega] at e
      rw [show mid + (a + la) - 1 - s = a + la + (mid - s - 1) by omega, hdB _ (by omega), e] at this
      exact this
    obtain ⟨C, c1, c2, c3⟩ := rest s (by omega) (by omega) (by omega) (by omega) (hb1 s q1 q2 q3) (hb2 s q1 q2 q4)
    refine ⟨C, c1, c2, fun k => ?_⟩
    rw [hD, ea, ela, elb, ← Nat.add_assoc, k9]
    unfold slices_symMergeCmpFunc_int_j1
    obtain ⟨s', q1', q2', q3', q4', q5'⟩ := search st0 r0 (fun (start2 : Int) => 
      letIn (wi ((wi ((wr .i64 (shr .u64 (wr .u64 (wi ((a : Int) + ((a + la + lb : Nat) : Int)))) 1)) + ((a + la : Nat) : Int))) - start2)) fun v177 : Int =>
      if ((decide (start2 < ((a + la : Nat) : Int))) && (decide (((a + la : Nat) : Int) < v177))) then
        (slices_rotateCmpFunc_int D start2 ((a + la : Nat) : Int) v177 l).bind fun r_7 =>
        guardLen D r_7 <|
        slices_symMergeCmpFunc_int_j2 (a : Int) start2 ((a + la + lb : Nat) : Int) (slices_symMergeCmpFunc_int_r (k + N)) l v177 r_7
      else
        slices_symMergeCmpFunc_int_j2 (a : Int) start2 ((a + la + lb : Nat) : Int) (slices_symMergeCmpFunc_int_r (k + N)) l v177 D) k1 k2 k3 k4 k5 k6
    refine lim_add (r0 - st0 + 1) fun m => (q5' m).trans ?_
    obtain ⟨C', c1', c2', c3'⟩ := rest s' (by omega) (by omega) (by omega) (by omega) (hb1 s' q1' q2' q3') (hb2 s' q1' q2' q4')
    obtain rfl : C' = C := sorted_unique l (c1'.trans c1.symm) c2' c2
    exact c3' k
theorem merge_eq (l : List TSGiven) (pre A B post : List Int) (ha : 0 < A.length) (hb : 0 < B.length) (hA : A.Pairwise (Before l)) (hB : B.Pairwise (Before l)) (hlt : ∀ p, p ∈ A → ∀ q, q ∈ B → p < q) (hr : ∀ p, p ∈ A ++ B → 0 ≤ p ∧ p < l.length) (hl : (pre ++ A ++ B ++ post).length < 1000) :
    ∃ C, C.Perm (A ++ B) ∧ C.Pairwise (Before l) ∧ slices_symMergeCmpFunc_int (pre ++ A ++ B ++ post) (pre.length : Int) ((pre.length + A.length : Nat) : Int) ((pre.length + A.length + B.length : Nat) : Int) l = some (pre ++ C ++ post) := by
  obtain ⟨C, c1, c2, c3⟩ := merges_all l (A.length + B.length) pre A B post (Nat.le_refl _) ha hb hA hB hlt hr hl
  exact ⟨C, c1, c2, lim_add (A.length + B.length) c3⟩
/-! ### the whole sort: blocks, then widths -/
/-- a stretch of places from one to another, in order -/
def Seg (l : List TSGiven) (i j : Nat) (s : List Int) : Prop := s.Perm ((pl j).drop i) ∧ s.Pairwise (Before l)
theorem pl_get {n i : Nat} (h : i < (pl n).length) : (pl n)[i] = (i : Int) := by
  simp [pl]
theorem mem_drop_pl {i j : Nat} {p : Int} : p ∈ (pl j).drop i ↔ (i : Int) ≤ p ∧ p < j := by
  rw [List.mem_iff_getElem]
  constructor
  · rintro ⟨k, hk, rfl⟩
    rw [List.length_drop, pl_len] at hk
    rw [List.getElem_drop, pl_get]
    omega
  · rintro ⟨h1, h2⟩
    refine ⟨(p - i).toNat, by rw [List.length_drop, pl_len]; omega, ?_⟩
    rw [List.getElem_drop, pl_get]
    omega
theorem seg_mem {l : List TSGiven} {i j : Nat} {s : List Int} (h : Seg l i j s) {p : Int} (hp : p ∈ s) : (i : Int) ≤ p ∧ p < j := mem_drop_pl.1 (h.1.subset hp)
theorem seg_len {l : List TSGiven} {i j : Nat} {s : List Int} (h : Seg l i j s) : s.length = j - i := by rw [h.1.length_eq, List.length_drop, pl_len]
theorem pl_append {i j : Nat} (h : i ≤ j) : pl j = pl i ++ (pl j).drop i := by
  have e : (pl j).take i = pl i := by
    apply List.ext_getElem
    · rw [List.length_take, pl_len, pl_len]; omega
    · intro k h1 h2
      rw [List.getElem_take, pl_get, pl_get]
  rw [← e, List.take_append_drop]
theorem drop_append {i m j : Nat} (h1 : i ≤ m) (h2 : m ≤ j) : (pl j).drop i = (pl m).drop i ++ (pl j).drop m := by
  rw [pl_append h2, List.drop_append_of_le_length (by rw [pl_len]; exact h1)]
  congr 1
  rw [← pl_append h2]
/-- one merge of two stretches of places -/
theorem merge_seg {l : List TSGiven} {i m j : Nat} {pre A B post : List Int} (hpre : pre.length = i) (him : i < m) (hmj : m < j) (hjl : j ≤ l.length) (hA : Seg l i m A) (hB : Seg l m j B) (hl : (pre ++ A ++ B ++ post).length < 1000) :
    ∃ C, Seg l i j C ∧ slices_symMergeCmpFunc_int (pre ++ A ++ B ++ post) (i : Int) (m : Int) (j : Int) l = some (pre ++ C ++ post) := by
  have la := seg_len hA
  have lb := seg_len hB
  obtain ⟨C, c1, c2, c3⟩ := merge_eq l pre A B post (by omega) (by omega) hA.2 hB.2 (fun p hp q hq => by have := seg_mem hA hp; have := seg_mem hB hq; omega) (fun p hp => by
    rcases List.mem_append.1 hp with h | h
    · have := seg_mem hA h; omega
    · have := seg_mem hB h; omega) hl
  refine ⟨C, ⟨?_, c2⟩, ?_⟩
  · rw [drop_append (Nat.le_of_lt him) (Nat.le_of_lt hmj)]
    exact c1.trans (hA.1.append hB.1)
  · rw [hpre, la, lb, show i + (m - i) = m by omega, show m + (j - m) = j by omega] at c3
    exact c3
/-- blocks of a width: from a place to the end -/
inductive Blocks (l : List TSGiven) (w n : Nat) : Nat → List Int → Prop
  | nil : Blocks l w n n []
  | last {i : Nat} {s : List Int} (h : i < n) (hw : n ≤ i + w) (hs : Seg l i n s) : Blocks l w n i s
  | cons {i : Nat} {s t : List Int} (h : i + w < n) (hs : Seg l i (i + w) s) (ht : Blocks l w n (i + w) t) : Blocks l w n i (s ++ t)
theorem blocks_len {l : List TSGiven} {w n i : Nat} {s : List Int} (h : Blocks l w n i s) : s.length = n - i ∧ i ≤ n := by
  induction h with
  | nil => simp
  | last h hw hs => rw [seg_len hs]; omega
  | cons h hs ht ih => rw [List.length_append, seg_len hs]; omega
/-- one round over all blocks makes blocks of twice the width -/
theorem merge_round {l : List TSGiven} {w n : Nat} (hw : 0 < w) (hw2 : w < 1000) (hn : n ≤ l.length) (hn2 : n < 500) : ∀ (d i : Nat) (pre t : List Int), n - i ≤ d → pre.length = i → Blocks l w n i t →
    ∃ t', Blocks l (2 * w) n i t' ∧ ∀ (G : List Int → Option (List Int)) m,
      slices_stableCmpFunc_int_l4 (n : Int) (w : Int) l (fun (data6 : (List Int)) (a_3 : Int) => 
          if decide ((wi (a_3 + (w : Int))) < (n : Int)) then
            (slices_symMergeCmpFunc_int data6 a_3 (wi (a_3 + (w : Int))) (n : Int) l).bind fun r_3 =>
            guardLen data6 r_3 <| G r_3
          else G data6) (m + d + 1) (pre ++ t) (i : Int) ((i + 2 * w : Nat) : Int) = G (pre ++ t')
  | d, i, pre, t, hd, hp, hb => by
    have hbl := blocks_len hb
    by_cases h2 : i + 2 * w ≤ n
    · -- two whole blocks
      have hne : ∃ s1 s2 t2, t = s1 ++ (s2 ++ t2) ∧ Seg l i (i + w) s1 ∧ Seg l (i + w) (i + w + w) s2 ∧ Blocks l w n (i + w + w) t2 := by
        cases hb with
        | nil => omega
        | last h hw' hs => omega
        | cons h hs ht =>
          cases ht with
          | nil => omega
          | last h' hw' hs' =>
            have e : i + w + w = n := by omega
            exact ⟨_, _, [], congrArg (_ ++ ·) (List.append_nil _).symm, hs, by rw [e]; exact hs', by rw [e]; exact .nil⟩
          | cons h' hs' ht' => exact ⟨_, _, _, rfl, hs, hs', ht'⟩
      obtain ⟨s1, s2, t2, rfl, g1, g2, g3⟩ := hne
      have l1 := seg_len g1
      have l2 := seg_len g2
      have l3 := blocks_len g3
      obtain ⟨C, c1, c2⟩ := merge_seg (pre := pre) (post := t2) hp (by omega) (by omega) (by omega) g1 g2 (by simp only [List.length_append]; omega)
      have lc := seg_len c1
      obtain ⟨d', rfl⟩ : ∃ d', d = d' + 1 := ⟨d - 1, by omega⟩
      obtain ⟨t', e1, e2⟩ := merge_round hw hw2 hn hn2 d' (i + w + w) (pre ++ C) t2 (by omega) (by rw [List.length_append]; omega) g3
      have hs12 : Blocks l (2 * w) n i (C ++ t') := by
        rw [show i + w + w = i + 2 * w by omega] at c1 e1
        by_cases he : i + 2 * w = n
        · have : t' = [] := List.eq_nil_of_length_eq_zero (by have := blocks_len e1; omega)
          subst this
          rw [List.append_nil]
          rw [he] at c1
          exact .last (by omega) (by omega) c1
        · exact .cons (by omega) c1 e1
      refine ⟨C ++ t', hs12, fun G m => ?_⟩
      rw [slices_stableCmpFunc_int_l4, if_pos (by simp only [decide_eq_true_eq]; omega), wi_id (n := (i : Int) + (w : Int)) (by omega) (by omega), show (i : Int) + (w : Int) = ((i + w : Nat) : Int) by omega, show i + 2 * w = i + w + w by omega]
      have c2' := c2
      rw [show pre ++ s1 ++ s2 ++ t2 = pre ++ (s1 ++ (s2 ++ t2)) by simp] at c2'
      rw [c2', Option.bind_some, guard_eq (by simp only [List.length_append]; omega), wi_id (n := 2 * (w : Int)) (by omega) (by omega), wi_id (by omega) (by omega), show ((i + w + w : Nat) : Int) + 2 * (w : Int) = ((i + w + w + 2 * w : Nat) : Int) by omega, show m + (d' + 1) = m + d' + 1 by omega, e2 G m]
      congr 1
      simp
    · -- less than two blocks are left
      by_cases h1 : i + w < n
      · have hne : ∃ s1 s2, t = s1 ++ s2 ∧ Seg l i (i + w) s1 ∧ Seg l (i + w) n s2 := by
          cases hb with
          | nil => omega
          | last h hw' hs => omega
          | cons h hs ht =>
            cases ht with
            | nil => omega
            | last h' hw' hs' => exact ⟨_, _, rfl, hs, hs'⟩
            | cons h' hs' ht' => omega
        obtain ⟨s1, s2, rfl, g1, g2⟩ := hne
        have l1 := seg_len g1
        have l2 := seg_len g2
        obtain ⟨C, c1, c2⟩ := merge_seg (pre := pre) (post := []) hp (by omega) h1 hn g1 g2 (by simp only [List.length_append, List.length_nil]; omega)
        have lc := seg_len c1
        refine ⟨C, .last (by omega) (by omega) c1, fun G m => ?_⟩
        rw [slices_stableCmpFunc_int_l4, if_neg (by simp only [decide_eq_true_eq]; omega)]
        rw [wi_id (n := (i : Int) + (w : Int)) (by omega) (by omega), show (i : Int) + (w : Int) = ((i + w : Nat) : Int) by omega, if_pos (by simp only [decide_eq_true_eq]; omega)]
        rw [show pre ++ s1 ++ s2 ++ [] = pre ++ (s1 ++ s2) by simp, List.append_nil] at c2
        rw [c2, Option.bind_some, guard_eq (by simp only [List.length_append]; omega)]
      · refine ⟨t, ?_, fun G m => ?_⟩
        · cases hb with
          | nil => exact .nil
          | last h hw' hs => exact .last h (by omega) hs
          | cons h hs ht => omega
        · rw [slices_stableCmpFunc_int_l4, if_neg (by simp only [decide_eq_true_eq]; omega)]
          rw [wi_id (by omega) (by omega), if_neg (by simp only [decide_eq_true_eq]; omega)]
theorem width_loop {l : List TSGiven} {n : Nat} (hn : n ≤ l.length) (hn2 : n < 500) (K : List Int → Option (List Int)) : ∀ (d w : Nat) (t : List Int), n - w ≤ d → 0 < w → w < 1000 → Blocks l w n 0 t →
    ∃ t', Seg l 0 n t' ∧ ∀ m, slices_stableCmpFunc_int_l3 (n : Int) l K (m + d + 1) t (w : Int) = K t'
  | d, w, t, hd, hw, hw2, hb => by
    by_cases h : w < n
    · obtain ⟨d', rfl⟩ : ∃ d', d = d' + 1 := ⟨d - 1, by omega⟩
      obtain ⟨t1, b1, f1⟩ := merge_round hw hw2 hn hn2 n 0 [] t (by omega) rfl hb
      obtain ⟨t', s', f'⟩ := width_loop hn hn2 K d' (2 * w) t1 (by omega) (by omega) (by omega) b1
      refine ⟨t', s', fun m => ?_⟩
      rw [slices_stableCmpFunc_int_l3, if_pos (by simp only [decide_eq_true_eq]; omega), wi_id (n := 2 * (w : Int)) (by omega) (by omega)]
      refine lim_add (n + 1) fun m2 => ?_
      have f2 := f1 (fun r => slices_stableCmpFunc_int_j3 (w : Int) (n : Int) l (slices_stableCmpFunc_int_l3 (n : Int) l K (m + (d' + 1))) K r) m2
      rw [List.nil_append, List.nil_append, Nat.zero_add] at f2
      rw [show 2 * (w : Int) = ((2 * w : Nat) : Int) by omega, ← Nat.add_assoc]
      refine f2.trans ?_
      unfold slices_stableCmpFunc_int_j3
      rw [wi_id (by omega) (by omega), show (w : Int) * 2 = ((2 * w : Nat) : Int) by omega, show m + (d' + 1) = m + d' + 1 by omega]
      exact f' m
    · refine ⟨t, ?_, fun m => ?_⟩
      · cases hb with
        | nil => exact ⟨by simp [pl], List.Pairwise.nil⟩
        | last h' hw' hs => exact hs
        | cons h' hs ht => omega
      · rw [slices_stableCmpFunc_int_l3, if_neg (by simp only [decide_eq_true_eq]; omega)]
/-- places that are not sorted yet grow -/
theorem places_grow (i j : Nat) : ((pl j).drop i).Pairwise (· < ·) := by
  rw [List.pairwise_iff_getElem]
  intro a b ha hb hab
  rw [List.getElem_drop, List.getElem_drop, pl_get, pl_get]
  omega
theorem block_loop {l : List TSGiven} {n : Nat} (hn : n ≤ l.length) (hn2 : n < 500) : ∀ (d i : Nat) (pre : List Int), n - i ≤ d → i ≤ n → pre.length = i →
    ∃ t, Blocks l 20 n i t ∧ ∀ (G : List Int → Option (List Int)) m, slices_stableCmpFunc_int_l0 (n : Int) l (fun (data2 : (List Int)) (a_1 : Int) => 
      (slices_insertionSortCmpFunc_int data2 a_1 (n : Int) l).bind fun r_1 =>
      guardLen data2 r_1 <| G r_1) (m + d + 1) (pre ++ (pl n).drop i) (i : Int) ((i + 20 : Nat) : Int) = G (pre ++ t)
  | d, i, pre, hd, hin, hp => by
    by_cases h : i + 20 ≤ n
    · obtain ⟨d', rfl⟩ : ∃ d', d = d' + 1 := ⟨d - 1, by omega⟩
      have e := drop_append (i := i) (m := i + 20) (j := n) (by omega) h
      have hl1 : ((pl (i + 20)).drop i).length = 20 := by rw [List.length_drop, pl_len]; omega
      have hl2 : ((pl n).drop (i + 20)).length = n - (i + 20) := by rw [List.length_drop, pl_len]
      obtain ⟨s, s1, s2, s3⟩ := insertion_eq l pre ((pl (i + 20)).drop i) ((pl n).drop (i + 20)) (by simp only [List.length_append]; omega) (fun p hp => by have := mem_drop_pl.1 hp; omega) (places_grow _ _)
      have hs : Seg l i (i + 20) s := ⟨s1, s2⟩
      obtain ⟨t, b, f⟩ := block_loop hn hn2 d' (i + 20) (pre ++ s) (by omega) h (by rw [List.length_append, seg_len hs]; omega)
      refine ⟨s ++ t, ?_, fun G m => ?_⟩
      · by_cases he : i + 20 = n
        · have : t = [] := List.eq_nil_of_length_eq_zero (by have := blocks_len b; omega)
          subst this
          rw [List.append_nil]
          rw [he] at hs
          exact .last (by omega) (by omega) hs
        · exact .cons (by omega) hs b
      · rw [slices_stableCmpFunc_int_l0, if_pos (by simp only [decide_eq_true_eq]; omega), e, ← List.append_assoc]
        rw [hp, hl1] at s3
        rw [s3, Option.bind_some, guard_eq (by simp only [List.length_append, seg_len hs]; omega), wi_id (by omega) (by omega), show ((i + 20 : Nat) : Int) + 20 = ((i + 20 + 20 : Nat) : Int) by omega, show m + (d' + 1) = m + d' + 1 by omega, f G m]
        congr 1
        simp
    · have hl1 : ((pl n).drop i).length = n - i := by rw [List.length_drop, pl_len]
      obtain ⟨s, s1, s2, s3⟩ := insertion_eq l pre ((pl n).drop i) [] (by simp only [List.length_append, List.length_nil]; omega) (fun p hp => by have := mem_drop_pl.1 hp; omega) (places_grow _ _)
      have hs : Seg l i n s := ⟨s1, s2⟩
      have hsl := seg_len hs
      refine ⟨s, ?_, fun G m => ?_⟩
      · by_cases he : i = n
        · subst he
          obtain rfl : s = [] := List.eq_nil_of_length_eq_zero (by omega)
          exact .nil
        · exact .last (by omega) (by omega) hs
      · rw [slices_stableCmpFunc_int_l0, if_neg (by simp only [decide_eq_true_eq]; omega)]
        rw [hp, hl1, List.append_nil, List.append_nil, show i + (n - i) = n by omega] at s3
        rw [s3, Option.bind_some, guard_eq (by simp only [List.length_append]; omega)]
theorem stable_eq (l : List TSGiven) (hl : l.length ≤ 60) : ∃ out, out.Perm (pl l.length) ∧ out.Pairwise (Before l) ∧ slices_stableCmpFunc_int (pl l.length) (l.length : Int) l = some out := by
  obtain ⟨t, b, f⟩ := block_loop (l := l) (n := l.length) (Nat.le_refl _) (by omega) l.length 0 [] (by omega) (Nat.zero_le _) rfl
  obtain ⟨t', s', f'⟩ := width_loop (l := l) (n := l.length) (Nat.le_refl _) (by omega) (fun r => some r) l.length 20 t (by omega) (by omega) (by omega) b
  refine ⟨t', s'.1, s'.2, ?_⟩
  unfold slices_stableCmpFunc_int
  refine lim_add (l.length + 1) fun m => ?_
  have f2 := f (fun r => lim fun kk1 => slices_stableCmpFunc_int_l3 (l.length : Int) l (fun (data4 : (List Int)) => some data4) kk1 r 20) m
  rw [List.nil_append, List.nil_append, List.drop_zero] at f2
  rw [← Nat.add_assoc]
  refine f2.trans ?_
  refine lim_add (l.length + 1) fun m2 => ?_
  rw [← Nat.add_assoc]
  exact f' m2
theorem sortOk : SortOk := by
  intro l hl
  obtain ⟨out, h1, h2, h3⟩ := stable_eq l hl
  refine ⟨out, h1, h2, ?_⟩
  unfold cascade_Order
  refine lim_add (l.length + 1) fun m => ?_
  have := places_loop l hl (fun (out1 : (List Int)) => 
      (slices_SortStableFunc_int out1 l).bind fun r_1 =>
      guardLen out1 r_1 <|
      some r_1) l.length 0 (by omega) m
  rw [← Nat.add_assoc]
  refine this.trans ?_
  have hlen : (pl l.length).length = out.length := h1.length_eq.symm
  unfold slices_SortStableFunc_int
  rw [pl_len, h3, Option.bind_some, guard_eq hlen, Option.bind_some, guard_eq hlen]
theorem pureCascadeOrders : PureCascadeOrders := law_of_sort sortOk
end Go.Proofs.YtgfcmhomndofaaaBv
