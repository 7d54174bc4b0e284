/- The law of what wins, over plain values: of each name the one that counts. No program is in sight. -/
import Derived.Test.YtagfmlkihindaaaShCascadeWins
import Derived.Test.YtagfmlkihindaaaBv23
namespace Go.Proofs.YtagfmlkihindaaaBv
open Go
set_option linter.unusedSimpArgs false
set_option linter.unusedVariables false
theorem rank_eq (g : TSGiven) : cascade_rank g = clerestoryref2_Rank g := rfl
def sg (x y : Int) : Int := if x < y then -1 else if y < x then 1 else 0
theorem compare_sg (x y : Int) : cmp_Compare_int x y = sg x y := by
  unfold cmp_Compare_int cmp_isNaN_int sg
  by_cases h1 : x < y
  · simp [h1]
  · by_cases h2 : y < x
    · simp [h1, h2]
    · simp [h1, h2]
theorem or_three (x y z : Int) : cmp_Or_int [x, y, z] = some (if x ≠ 0 then x else if y ≠ 0 then y else z) := by
  unfold cmp_Or_int
  refine lim_add 4 fun k => ?_
  have st : ∀ (m : Nat) (i v : Int), i < 3 → at? [x, y, z] i = some v → cmp_Or_int_l0 [x, y, z] (fun _ => some 0) (m + 1) i = if v ≠ 0 then some v else cmp_Or_int_l0 [x, y, z] (fun _ => some 0) m (wi (i + 1)) := by
    intro m i v hi hv
    rw [cmp_Or_int_l0, if_pos (by simp; omega), hv, Option.bind_some]
    by_cases h : v = 0 <;> simp [h]
  rw [st (k + 3) 0 x (by decide) rfl, show wi (0 + 1) = 1 from rfl, st (k + 2) 1 y (by decide) rfl, show wi (1 + 1) = 2 from rfl, st (k + 1) 2 z (by decide) rfl, show wi (2 + 1) = 3 from rfl,
    show cmp_Or_int_l0 [x, y, z] (fun _ => some 0) (k + 1) 3 = some 0 from by rw [cmp_Or_int_l0, if_neg (by simp)]]
  by_cases h1 : x = 0
  · by_cases h2 : y = 0
    · by_cases h3 : z = 0 <;> simp [h1, h2, h3]
    · simp [h1, h2]
  · simp [h1]
/-- the comparison says the document's order -/
theorem compare_eq (a b : TSGiven) : ∃ c, cascade_compare a b = some c ∧ (c < 0 ↔ clerestoryref2_Later a b = true) := by
  unfold cascade_compare
  rw [letIn_eq, compare_sg, compare_sg, compare_sg, or_three, Option.bind_some]
  refine ⟨_, rfl, ?_⟩
  rw [rank_eq, rank_eq]
  unfold clerestoryref2_Later sg
  generalize clerestoryref2_Rank a = x
  generalize clerestoryref2_Rank b = y
  rcases Int.lt_trichotomy x y with h | h | h
  · have : ¬ x = y := by omega
    simp [h, this]
  · subst h
    rcases Int.lt_trichotomy a.Weight b.Weight with h | h | h
    · have : ¬ a.Weight = b.Weight := by omega
      simp [h, this]
    · simp only [h, Int.lt_irrefl, if_false, ne_eq, not_true_eq_false, decide_true, Bool.not_true, Bool.false_eq_true, decide_eq_true_eq]
      split
      · simp_all
      · split <;> simp_all
    · have h1 : ¬ a.Weight = b.Weight := by omega
      have h2 : ¬ a.Weight < b.Weight := by omega
      simp [h, h1, h2]
  · have h1 : ¬ x = y := by omega
    have h2 : ¬ x < y := by omega
    simp [h, h1, h2]

/-! ### the order of places: by the document's order, and by place where that says nothing -/
def key (l : List TSGiven) (p : Int) : Int × Int × Int := match at? l p with | some g => (clerestoryref2_Rank g, g.Weight, g.Place) | none => (0, 0, 0)
def klt (a b : Int × Int × Int) : Prop := a.1 < b.1 ∨ (a.1 = b.1 ∧ (a.2.1 < b.2.1 ∨ (a.2.1 = b.2.1 ∧ a.2.2 < b.2.2)))
instance (a b : Int × Int × Int) : Decidable (klt a b) := by unfold klt; infer_instance
theorem later_key {l : List TSGiven} {p q : Int} {a b : TSGiven} (ha : at? l p = some a) (hb : at? l q = some b) : clerestoryref2_Later a b = true ↔ klt (key l p) (key l q) := by
  unfold key
  rw [ha, hb]
  unfold clerestoryref2_Later klt
  by_cases h1 : clerestoryref2_Rank a = clerestoryref2_Rank b
  · by_cases h2 : a.Weight = b.Weight
    · simp [h1, h2]
    · simp [h1, h2]
  · simp [h1]
theorem klt_trans {a b c : Int × Int × Int} (h1 : klt a b) (h2 : klt b c) : klt a c := by unfold klt at *; omega
theorem klt_irrefl (a : Int × Int × Int) : ¬ klt a a := by unfold klt; omega
def Before (l : List TSGiven) (p q : Int) : Prop := klt (key l p) (key l q) ∨ (¬ klt (key l q) (key l p) ∧ p < q)
theorem before_trans {l : List TSGiven} {p q r : Int} (h1 : Before l p q) (h2 : Before l q r) : Before l p r := by unfold Before klt at *; omega
theorem before_irrefl (l : List TSGiven) (p : Int) : ¬ Before l p p := by unfold Before klt; omega
theorem before_asymm {l : List TSGiven} {p q : Int} (h : Before l p q) : ¬ Before l q p := fun h' => before_irrefl l p (before_trans h h')
theorem before_total (l : List TSGiven) {p q : Int} (h : p ≠ q) : Before l p q ∨ Before l q p := by unfold Before klt; omega
/-- two lists of the same places, both in order, are one -/
theorem sorted_unique (l : List TSGiven) : ∀ {xs ys : List Int}, xs.Perm ys → xs.Pairwise (Before l) → ys.Pairwise (Before l) → xs = ys
  | [], ys, hp, _, _ => (List.nil_perm.1 hp).symm
  | x :: xs, [], hp, _, _ => absurd hp.length_eq (by simp)
  | x :: xs, y :: ys, hp, h1, h2 => by
    rw [List.pairwise_cons] at h1 h2
    have hxy : x = y := by
      by_cases h : x = y
      · exact h
      · have m1 : x ∈ ys := by
          have : x ∈ y :: ys := hp.subset List.mem_cons_self
          rcases List.mem_cons.1 this with h' | h'
          · exact absurd h' h
          · exact h'
        have m2 : y ∈ xs := by
          have : y ∈ x :: xs := hp.symm.subset List.mem_cons_self
          rcases List.mem_cons.1 this with h' | h'
          · exact absurd h'.symm h
          · exact h'
        exact absurd (h1.1 y m2) (before_asymm (h2.1 x m1))
    subst hxy
    rw [sorted_unique l (List.perm_cons x |>.1 hp) h1.2 h2.2]
/-- what the sort asks: for a place from behind against one from before it is the order of places -/
theorem before_of_gt {l : List TSGiven} {p q : Int} (h : q < p) : Before l p q ↔ klt (key l p) (key l q) := by unfold Before klt; omega

/-! ### the document's way: each place goes in from behind -/
def pl (n : Nat) : List Int := (List.range n).map fun i : Nat => (i : Int)
theorem pl_succ (n : Nat) : pl (n + 1) = pl n ++ [(n : Int)] := by unfold pl; rw [List.range_succ, List.map_append]; rfl
theorem mem_pl {n : Nat} {p : Int} : p ∈ pl n ↔ 0 ≤ p ∧ p < n := by
  unfold pl
  rw [List.mem_map]
  constructor
  · rintro ⟨i, h, rfl⟩; rw [List.mem_range] at h; omega
  · rintro ⟨h1, h2⟩; exact ⟨p.toNat, by rw [List.mem_range]; omega, by omega⟩
theorem down_loop (l : List TSGiven) (out : List Int) (i : Nat) (hi : i < l.length) (hm : ∀ p, p ∈ out → 0 ≤ p ∧ p < l.length) (hl : out.length < 1000) : ∀ (k : Nat), k ≤ out.length → (∀ j (hj : j < out.length), k ≤ j → klt (key l i) (key l out[j])) →
    ∃ k', k' ≤ out.length ∧ (∀ m K, clerestoryref2_OrderOf_l3 l (i : Int) K (m + k + 1) out (k : Int) = K out (k' : Int)) ∧ (∀ j (hj : j < out.length), k' ≤ j → klt (key l i) (key l out[j])) ∧ (∀ j (hj : j < out.length), j + 1 = k' → ¬ klt (key l i) (key l out[j]))
  | 0, hk, ha => by
    refine ⟨0, hk, fun m K => ?_, ha, fun j _ h => by omega⟩
    rw [clerestoryref2_OrderOf_l3, if_neg (by simp)]
    rfl
  | k + 1, hk, ha => by
    have hk1 : k < out.length := by omega
    have hp := hm _ (List.getElem_mem hk1)
    obtain ⟨q, hq⟩ : ∃ q : Nat, out[k] = q := ⟨out[k].toNat, by omega⟩
    have hql : q < l.length := by omega
    have e := later_key (at_some hi) (at_some hql)
    rw [← hq] at e
    by_cases hc : klt (key l i) (key l out[k])
    · obtain ⟨k', h1, h2, h3, h4⟩ := down_loop l out i hi hm hl k (by omega) fun j hj hkj => by
        by_cases h : j = k
        · subst h; exact hc
        · exact ha j hj (by omega)
      refine ⟨k', h1, fun m K => ?_, h3, h4⟩
      rw [clerestoryref2_OrderOf_l3, if_pos (by simp only [decide_eq_true_eq]; omega), at_some hi, Option.bind_some, wi_id (by omega) (by omega), show ((k + 1 : Nat) : Int) - 1 = (k : Int) by omega, at_some hk1, Option.bind_some, hq, at_some hql, Option.bind_some, e.2 hc]
      unfold clerestoryref2_OrderOf_j6
      rw [if_pos rfl, wi_id (by omega) (by omega), show ((k + 1 : Nat) : Int) - 1 = (k : Int) by omega, show m + (k + 1) = m + k + 1 by omega]
      exact h2 m K
    · refine ⟨k + 1, hk, fun m K => ?_, ha, fun j hj h => ?_⟩
      · rw [clerestoryref2_OrderOf_l3, if_pos (by simp only [decide_eq_true_eq]; omega), at_some hi, Option.bind_some, wi_id (by omega) (by omega), show ((k + 1 : Nat) : Int) - 1 = (k : Int) by omega, at_some hk1, Option.bind_some, hq, at_some hql, Option.bind_some]
        unfold clerestoryref2_OrderOf_j6
        rw [if_neg fun h => hc (e.1 h)]
      · obtain rfl : j = k := by omega
        exact hc

theorem order_loop (l : List TSGiven) (hl : l.length ≤ 60) (K : List Int → Option (List Int)) : ∀ (d i : Nat) (out : List Int), i + d = l.length → out.Perm (pl i) → out.Pairwise (Before l) →
    ∃ out', out'.Perm (pl l.length) ∧ out'.Pairwise (Before l) ∧ ∀ m, clerestoryref2_OrderOf_l2 l K (m + d + 1) out (i : Int) = K out'
  | 0, i, out, hi, hp, hs => by
    obtain rfl : i = l.length := by omega
    refine ⟨out, hp, hs, fun m => ?_⟩
    rw [clerestoryref2_OrderOf_l2, if_neg (by simp)]
  | d + 1, i, out, hi, hp, hs => by
    have hil : i < l.length := by omega
    have hlen : out.length = i := by rw [hp.length_eq]; unfold pl; rw [List.length_map, List.length_range]
    have hm : ∀ p, p ∈ out → 0 ≤ p ∧ p < i := fun p h => mem_pl.1 (hp.subset h)
    obtain ⟨k, h1, h2, h3, h4⟩ := down_loop l out i hil (fun p h => by have := hm p h; omega) (by omega) out.length (Nat.le_refl _) fun j hj hkj => absurd hj (by omega)
    have hpw := List.pairwise_iff_getElem.1 hs
    have hbefore : ∀ j (hj : j < out.length), j < k → Before l out[j] i := by
      intro j hj hjk
      have hk0 : k - 1 < out.length := by omega
      have hlast : Before l out[k - 1] i := by
        have h5 := h4 (k - 1) hk0 (by omega)
        have h6 := hm _ (List.getElem_mem hk0)
        exact .inr ⟨h5, h6.2⟩
      by_cases h : j = k - 1
      · subst h; exact hlast
      · exact before_trans (hpw j (k - 1) hj hk0 (by omega)) hlast
    have hnew : (out.take k ++ [(i : Int)] ++ out.drop k).Pairwise (Before l) := by
      rw [List.append_assoc, List.pairwise_append]
      refine ⟨hs.sublist (List.take_sublist _ _), ?_, ?_⟩
      · rw [List.singleton_append, List.pairwise_cons]
        refine ⟨fun q hq => ?_, hs.sublist (List.drop_sublist _ _)⟩
        obtain ⟨j, hj, rfl⟩ := List.mem_iff_getElem.1 hq
        rw [List.getElem_drop]
        exact .inl (h3 _ _ (by omega))
      · intro p hpm q hqm
        obtain ⟨j, hj, rfl⟩ := List.mem_iff_getElem.1 hpm
        rw [List.length_take] at hj
        rw [List.getElem_take]
        have hji := hbefore j (by omega) (by omega)
        rw [List.singleton_append, List.mem_cons] at hqm
        rcases hqm with rfl | hqm
        · exact hji
        · obtain ⟨j2, hj2, rfl⟩ := List.mem_iff_getElem.1 hqm
          rw [List.length_drop] at hj2
          rw [List.getElem_drop]
          exact hpw j (k + j2) (by omega) (by omega) (by omega)
    have hperm : (out.take k ++ [(i : Int)] ++ out.drop k).Perm (pl (i + 1)) := by
      rw [pl_succ]
      refine List.Perm.trans ?_ (hp.append_right _)
      rw [List.append_assoc]
      refine List.Perm.trans (List.Perm.append_left _ List.perm_append_comm) ?_
      rw [← List.append_assoc, List.take_append_drop]
    obtain ⟨out', e1, e2, e3⟩ := order_loop l hl K d (i + 1) _ (by omega) hperm hnew
    refine ⟨out', e1, e2, fun m => ?_⟩
    rw [clerestoryref2_OrderOf_l2, if_pos (by simp only [decide_eq_true_eq]; omega)]
    refine (?_ : _ = clerestoryref2_OrderOf_l2 l K (m + d + 1) (out.take k ++ [(i : Int)] ++ out.drop k) ((i + 1 : Nat) : Int)).trans (e3 m)
    obtain ⟨o, ho⟩ : ∃ o, clerestoryref2_OrderOf_l2 l K (m + d + 1) (out.take k ++ [(i : Int)] ++ out.drop k) ((i + 1 : Nat) : Int) = o := ⟨_, rfl⟩
    rw [ho]
    refine lim_add (out.length + 1) fun m2 => (h2 m2 _).trans ?_
    have s1 : sub? out 0 (k : Int) = some (out.take k) := by
      unfold sub?
      rw [if_pos (by omega)]
      simp
    have s2 : sub? out (k : Int) (out.length : Int) = some (out.drop k) := by
      unfold sub?
      rw [if_pos (by omega)]
      simp
    have a1 : app? 8 ([] : List Int) (out.take k) = some (out.take k) := by
      unfold app?
      rw [if_pos (by simp; omega)]
      rfl
    have a2 : app? 8 (out.take k) [(i : Int)] = some (out.take k ++ [(i : Int)]) := by
      unfold app?
      rw [if_pos (by simp; omega)]
    have a3 : app? 8 (out.take k ++ [(i : Int)]) (out.drop k) = some (out.take k ++ [(i : Int)] ++ out.drop k) := by
      unfold app?
      rw [if_pos (by simp; omega)]
    rw [s1, Option.bind_some, a1, Option.bind_some, a2, Option.bind_some, s2, Option.bind_some, a3, Option.bind_some, wi_id (by omega) (by omega), show (i : Int) + 1 = ((i + 1 : Nat) : Int) by omega, show m + (d + 1) = m + d + 1 by omega]
    exact ho
theorem order_of (l : List TSGiven) (hl : l.length ≤ 60) : ∃ out, out.Perm (pl l.length) ∧ out.Pairwise (Before l) ∧ clerestoryref2_OrderOf l = some out := by
  obtain ⟨out, h1, h2, h3⟩ := order_loop l hl (fun out1 => some out1) l.length 0 [] (by omega) (List.Perm.refl _) List.Pairwise.nil
  exact ⟨out, h1, h2, lim_add (l.length + 1) fun m => h3 m⟩

/-! ### the law, if the sort sorts -/
theorem less_eq (a b : TSGiven) : cascade_Less a b = some (clerestoryref2_Later a b) := by
  obtain ⟨c, h1, h2⟩ := compare_eq a b
  unfold cascade_Less
  rw [h1, Option.bind_some]
  congr 1
  rw [Bool.eq_iff_iff, decide_eq_true_eq]
  exact h2
theorem own_eq : clerestorylaw2_own = some true := by
  unfold clerestorylaw2_own clerestorylaw2_own_j1
  simp only [less_eq, Option.bind_some, letIn_eq]
  decide
theorem in_l0 (l : List (List UInt8)) (v : List UInt8) (hl : l.length ≤ 1000) : ∀ (N i : Nat), l.length - i < N → i ≤ l.length → clerestoryref2_In_l0 l v (fun _ => some false) N (i : Int) = some (decide (v ∈ l.drop i))
  | 0, i, hN, hi => by omega
  | N + 1, i, hN, hi => by
    rw [clerestoryref2_In_l0]
    by_cases h : i < l.length
    · rw [if_pos (by simp only [decide_eq_true_eq]; omega), at_some h, Option.bind_some, wi_id (by omega) (by omega), show (i : Int) + 1 = ((i + 1 : Nat) : Int) by omega, in_l0 l v hl N (i + 1) (by omega) (by omega), List.drop_eq_getElem_cons h]
      by_cases hv : l[i] = v
      · rw [if_pos (by simpa using hv)]; simp [hv]
      · have hv' : ¬ v = l[i] := fun h => hv h.symm
        rw [if_neg (by simpa using hv)]
        congr 1
        rw [Bool.eq_iff_iff, decide_eq_true_iff, decide_eq_true_iff, List.mem_cons]
        exact ⟨.inr, fun h => h.resolve_left hv'⟩
    · rw [if_neg (by simp only [decide_eq_true_eq]; omega), List.drop_eq_nil_of_le (by omega)]
      simp
theorem in_eq (l : List (List UInt8)) (v : List UInt8) (hl : l.length ≤ 1000) : clerestoryref2_In l v = some (decide (v ∈ l)) := by
  unfold clerestoryref2_In
  have e : lim (fun kk => clerestoryref2_In_l0 l v (fun _ => some false) kk 0) = some (decide (v ∈ l.drop 0)) := lim_of (l.length + 1) fun k hk => in_l0 l v hl k 0 (by omega) (by omega)
  rw [e, List.drop_zero]

/-! ### names, and which one counts of each -/
theorem mget_mset {κ ν : Type} [DecidableEq κ] (k : κ) (v : ν) (x : κ) : ∀ l : List (κ × ν), mget (mset l k v) x = if x = k then some v else mget l x
  | [] => by simp only [mset, mget]
  | p :: r => by
    have ih := mget_mset k v x r
    simp only [mset]
    by_cases h : k = p.1
    · rw [if_pos h]
      simp only [mget]
      by_cases h2 : x = k
      · rw [if_pos h2, if_pos h2]
      · rw [if_neg h2, if_neg h2, if_neg (by rw [← h]; exact h2)]
    · rw [if_neg h]
      simp only [mget]
      by_cases h2 : x = p.1
      · have h3 : ¬ x = k := by intro e; exact h (by rw [← e]; exact h2)
        rw [if_pos h2, if_neg h3, if_pos h2]
      · rw [if_neg h2, ih]
        by_cases h3 : x = k
        · rw [if_pos h3, if_pos h3]
        · rw [if_neg h3, if_neg h3, if_neg h2]
def nms (l : List TSGiven) : Nat → List (List UInt8)
  | 0 => []
  | i + 1 => match l[i]? with
    | some g => if g.Name ∈ nms l i then nms l i else nms l i ++ [g.Name]
    | none => nms l i
def nm (l : List TSGiven) (p : Int) : List UInt8 := match at? l p with
  | some g => g.Name
  | none => []
theorem nm_at {l : List TSGiven} {i : Nat} (h : i < l.length) : nm l (i : Int) = l[i].Name := by unfold nm; rw [at_some h]
theorem nms_old {l : List TSGiven} {i : Nat} (h : i < l.length) (hm : l[i].Name ∈ nms l i) : nms l (i + 1) = nms l i := by
  rw [nms, List.getElem?_eq_getElem h]
  exact if_pos hm
theorem nms_new {l : List TSGiven} {i : Nat} (h : i < l.length) (hm : l[i].Name ∉ nms l i) : nms l (i + 1) = nms l i ++ [l[i].Name] := by
  rw [nms, List.getElem?_eq_getElem h]
  exact if_neg hm
theorem nms_len (l : List TSGiven) : ∀ i, (nms l i).length ≤ i
  | 0 => Nat.le_refl _
  | i + 1 => by
    have := nms_len l i
    by_cases h : i < l.length
    · by_cases hm : l[i].Name ∈ nms l i
      · rw [nms_old h hm]; omega
      · rw [nms_new h hm, List.length_append]; simp; omega
    · rw [nms, List.getElem?_eq_none (by omega)]; show (nms l i).length ≤ i + 1; omega
theorem nms_nodup (l : List TSGiven) : ∀ i, (nms l i).Nodup
  | 0 => List.nodup_nil
  | i + 1 => by
    have := nms_nodup l i
    by_cases h : i < l.length
    · by_cases hm : l[i].Name ∈ nms l i
      · rw [nms_old h hm]; exact this
      · rw [nms_new h hm]
        exact List.nodup_append.2 ⟨this, by simp, fun a ha b hb => by
          rw [List.mem_singleton] at hb
          subst hb
          exact fun e => hm (e ▸ ha)⟩
    · rw [nms, List.getElem?_eq_none (by omega)]; exact this
theorem nms_mem (l : List TSGiven) : ∀ (i q : Nat), q < i → i ≤ l.length → nm l (q : Int) ∈ nms l i
  | 0, q, h, _ => by omega
  | i + 1, q, h, hi => by
    have h1 : i < l.length := by omega
    by_cases hq : q = i
    · subst hq
      rw [nm_at h1]
      by_cases hm : l[q].Name ∈ nms l q
      · rw [nms_old h1 hm]; exact hm
      · rw [nms_new h1 hm]; simp
    · have := nms_mem l i q (by omega) (by omega)
      by_cases hm : l[i].Name ∈ nms l i
      · rw [nms_old h1 hm]; exact this
      · rw [nms_new h1 hm]; exact List.mem_append_left _ this
def Top (l : List TSGiven) (n : Nat) (x : List UInt8) (p : Int) : Prop := 0 ≤ p ∧ p < n ∧ nm l p = x ∧ ∀ q : Int, 0 ≤ q → q < n → nm l q = x → q ≠ p → Before l q p
theorem top_unique {l : List TSGiven} {n : Nat} {x : List UInt8} {p p' : Int} (h : Top l n x p) (h' : Top l n x p') : p = p' :=
  Classical.byContradiction fun hne => before_asymm (h.2.2.2 p' h'.1 h'.2.1 h'.2.2.1 fun e => hne e.symm) (h'.2.2.2 p h.1 h.2.1 h.2.2.1 hne)
def Best (l : List TSGiven) (n : Nat) (ns : List (List UInt8)) (out : List TSGiven) : Prop := out.length = ns.length ∧ ∀ j (hj : j < ns.length) (hj' : j < out.length), ∃ p, Top l n ns[j] p ∧ at? l p = some out[j]
theorem best_unique {l : List TSGiven} {n : Nat} {ns : List (List UInt8)} {a b : List TSGiven} (ha : Best l n ns a) (hb : Best l n ns b) : a = b := by
  refine List.ext_getElem (ha.1.trans hb.1.symm) fun j h1 h2 => ?_
  obtain ⟨p, hp, e1⟩ := ha.2 j (by rw [← ha.1]; exact h1) h1
  obtain ⟨p', hp', e2⟩ := hb.2 j (by rw [← ha.1]; exact h1) h2
  rw [top_unique hp' hp, e1] at e2
  exact Option.some.inj e2
/-- one more that has another name -/
theorem top_other {l : List TSGiven} {i : Nat} {x : List UInt8} {p : Int} (hx : nm l (i : Int) ≠ x) (h : Top l i x p) : Top l (i + 1) x p := by
  refine ⟨h.1, by have := h.2.1; omega, h.2.2.1, fun q h0 h1 h2 h3 => ?_⟩
  by_cases e : q = i
  · subst e; exact absurd h2 hx
  · exact h.2.2.2 q h0 (by omega) h2 h3
def MapOk (ns : List (List UInt8)) (m : List (List UInt8 × Int)) : Prop := ∀ x, mget m x = if x ∈ ns then some (ns.idxOf x : Int) else none
theorem win_loop (l : List TSGiven) (hl : l.length ≤ 60) : ∀ (d i : Nat) (m : List (List UInt8 × Int)) (out : List TSGiven), i + d = l.length → Best l i (nms l i) out → MapOk (nms l i) m →
    ∃ out', Best l l.length (nms l l.length) out' ∧ ∀ k, cascade_Win_l0 l (fun out1 => some out1) (k + d + 1) m out (i : Int) = some out'
  | 0, i, m, out, hi, hb, hm => by
    obtain rfl : i = l.length := by omega
    refine ⟨out, hb, fun k => ?_⟩
    rw [cascade_Win_l0, if_neg (by simp)]
  | d + 1, i, m, out, hi, hb, hm => by
    have h1 : i < l.length := by omega
    have hlen := nms_len l i
    have e1 : (i : Int) + 1 = ((i + 1 : Nat) : Int) := by omega
    have enm := nm_at h1
    by_cases hmem : l[i].Name ∈ nms l i
    · have hj : (nms l i).idxOf l[i].Name < (nms l i).length := List.idxOf_lt_length_of_mem hmem
      have hjx : (nms l i)[(nms l i).idxOf l[i].Name] = l[i].Name := List.getElem_idxOf hj
      obtain ⟨j, ej⟩ : ∃ j, (nms l i).idxOf l[i].Name = j := ⟨_, rfl⟩
      have hg : mget m l[i].Name = some (j : Int) := by rw [hm, if_pos hmem, ej]
      simp only [ej] at hj hjx
      have hj' : j < out.length := by rw [hb.1]; exact hj
      obtain ⟨p, hp, ep⟩ := hb.2 j hj hj'
      rw [hjx] at hp
      obtain ⟨c, hc1, hc2⟩ := compare_eq l[i] out[j]
      rw [later_key (at_some h1) ep] at hc2
      have hns := nms_old h1 hmem
      have step : ∀ k, cascade_Win_l0 l (fun out1 => some out1) (k + (d + 1) + 1) m out (i : Int) = cascade_Win_l0 l (fun out1 => some out1) (k + d + 1) m (if 0 ≤ c then out.set j l[i] else out) ((i + 1 : Nat) : Int) := by
        intro k
        rw [cascade_Win_l0, if_pos (by simp only [decide_eq_true_eq]; omega), at_some h1, Option.bind_some, hg, if_neg (by simp)]
        simp only [Option.getD_some, at_some hj', Option.bind_some, hc1, cascade_Win_j2, Int.toNat_natCast]
        rw [wi_id (by omega) (by omega), e1]
        by_cases h0 : 0 ≤ c
        · rw [if_pos (by simpa using h0), if_pos h0]; rfl
        · rw [if_neg (by simpa using h0), if_neg h0]; rfl
      by_cases h0 : 0 ≤ c
      · have hbf : Before l p (i : Int) := by
          have n1 : ¬ klt (key l i) (key l p) := fun h => by have := hc2.2 h; omega
          exact .inr ⟨n1, hp.2.1⟩
        have hb' : Best l (i + 1) (nms l (i + 1)) (out.set j l[i]) := by
          rw [hns]
          refine ⟨by rw [List.length_set]; exact hb.1, fun j2 h2 h3 => ?_⟩
          by_cases e : j2 = j
          · subst e
            refine ⟨i, ?_, by rw [at_some h1, List.getElem_set_self]⟩
            rw [hjx]
            refine ⟨by omega, by omega, enm, fun q q0 q1 q2 q3 => ?_⟩
            by_cases e : q = p
            · subst e; exact hbf
            · exact before_trans (hp.2.2.2 q q0 (by omega) q2 e) hbf
          · obtain ⟨p2, hp2, ep2⟩ := hb.2 j2 h2 (by rw [List.length_set] at h3; exact h3)
            refine ⟨p2, top_other ?_ hp2, ?_⟩
            · rw [enm, ← hjx]
              exact fun e2 => e ((List.getElem_inj (nms_nodup l i)).1 e2.symm)
            · rw [List.getElem_set_ne (Ne.symm e)]; exact ep2
        obtain ⟨out', o1, o2⟩ := win_loop l hl d (i + 1) m _ (by omega) hb' (by rw [hns]; exact hm)
        exact ⟨out', o1, fun k => by rw [step k, if_pos h0]; exact o2 k⟩
      · have hbf : Before l (i : Int) p := .inl (hc2.1 (by omega))
        have hb' : Best l (i + 1) (nms l (i + 1)) out := by
          rw [hns]
          refine ⟨hb.1, fun j2 h2 h3 => ?_⟩
          by_cases e : j2 = j
          · subst e
            refine ⟨p, ?_, ep⟩
            rw [hjx]
            refine ⟨hp.1, by have := hp.2.1; omega, hp.2.2.1, fun q q0 q1 q2 q3 => ?_⟩
            by_cases e : q = i
            · subst e; exact hbf
            · exact hp.2.2.2 q q0 (by omega) q2 q3
          · obtain ⟨p2, hp2, ep2⟩ := hb.2 j2 h2 h3
            refine ⟨p2, top_other ?_ hp2, ep2⟩
            rw [enm, ← hjx]
            exact fun e2 => e ((List.getElem_inj (nms_nodup l i)).1 e2.symm)
        obtain ⟨out', o1, o2⟩ := win_loop l hl d (i + 1) m _ (by omega) hb' (by rw [hns]; exact hm)
        exact ⟨out', o1, fun k => by rw [step k, if_neg h0]; exact o2 k⟩
    · have hg : mget m l[i].Name = none := by rw [hm, if_neg hmem]
      have hns := nms_new h1 hmem
      have step : ∀ k, cascade_Win_l0 l (fun out1 => some out1) (k + (d + 1) + 1) m out (i : Int) = cascade_Win_l0 l (fun out1 => some out1) (k + d + 1) (mset m l[i].Name (out.length : Int)) (out ++ [l[i]]) ((i + 1 : Nat) : Int) := by
        intro k
        rw [cascade_Win_l0, if_pos (by simp only [decide_eq_true_eq]; omega), at_some h1, Option.bind_some, hg, if_pos (by simp), letIn_eq, appq (by rw [hb.1]; simp; omega), Option.bind_some]
        unfold cascade_Win_j2
        rw [wi_id (by omega) (by omega), e1]
        rfl
      have hb' : Best l (i + 1) (nms l (i + 1)) (out ++ [l[i]]) := by
        rw [hns]
        refine ⟨by simp [hb.1], fun j2 h2 h3 => ?_⟩
        by_cases e : j2 < (nms l i).length
        · obtain ⟨p2, hp2, ep2⟩ := hb.2 j2 e (by rw [hb.1]; exact e)
          refine ⟨p2, ?_, by rw [List.getElem_append_left (by rw [hb.1]; exact e)]; exact ep2⟩
          rw [List.getElem_append_left e]
          refine top_other ?_ hp2
          rw [enm]
          exact fun e2 => hmem (by rw [e2]; exact List.getElem_mem e)
        · have e2 : j2 = (nms l i).length := by rw [List.length_append] at h2; simp at h2; omega
          subst e2
          refine ⟨i, ?_, ?_⟩
          · rw [List.getElem_append_right (Nat.le_refl _)]
            simp only [Nat.sub_self, List.getElem_cons_zero]
            refine ⟨by omega, by omega, enm, fun q q0 q1 q2 q3 => ?_⟩
            obtain ⟨q', rfl⟩ : ∃ q' : Nat, q = q' := ⟨q.toNat, by omega⟩
            have := nms_mem l i q' (by omega) (by omega)
            rw [q2] at this
            exact absurd this hmem
          · rw [at_some h1, List.getElem_append_right (by rw [hb.1]; exact Nat.le_refl _)]
            simp [hb.1]
      have hm' : MapOk (nms l (i + 1)) (mset m l[i].Name (out.length : Int)) := by
        intro x
        rw [mget_mset, hns]
        by_cases hx : x = l[i].Name
        · rw [if_pos hx, if_pos (by rw [hx]; simp), hx, List.idxOf_append, if_neg hmem, hb.1]
          simp
        · rw [if_neg hx, hm x]
          by_cases hx2 : x ∈ nms l i
          · rw [if_pos hx2, if_pos (List.mem_append_left _ hx2), List.idxOf_append, if_pos hx2]
          · rw [if_neg hx2, if_neg (by simp [hx, hx2])]
      obtain ⟨out', o1, o2⟩ := win_loop l hl d (i + 1) _ _ (by omega) hb' hm'
      exact ⟨out', o1, fun k => by rw [step k]; exact o2 k⟩
theorem win_eq (l : List TSGiven) (hl : l.length ≤ 60) : ∃ out, Best l l.length (nms l l.length) out ∧ cascade_Win l = some out := by
  obtain ⟨out, h1, h2⟩ := win_loop l hl l.length 0 [] [] (by omega) ⟨rfl, fun j h _ => by simp [nms] at h⟩ (fun x => by simp [mget, nms])
  exact ⟨out, h1, lim_add (l.length + 1) fun k => h2 k⟩
/-! ### the document's way -/
theorem top_loop (l : List TSGiven) (O : List Int) (hO : O.Perm (pl l.length)) (hs : O.Pairwise (Before l)) (i : Nat) (hi : i < l.length) (hl : l.length ≤ 60) (out : List TSGiven) : ∀ (k : Nat), k ≤ O.length →
    (∀ j (hj : j < O.length), k ≤ j → nm l O[j] ≠ l[i].Name) →
    ∃ p g, Top l l.length l[i].Name p ∧ at? l p = some g ∧ ∀ (m : Nat) (K : List (List UInt8) → List TSGiven → List Int → Option (List TSGiven)) (ns : List (List UInt8)),
      clerestoryref2_WinOf_l9 O l (i : Int) out K (m + k + 1) ns ((k : Int) - 1) = (app? 64 out [g]).bind fun r => K ns r O
  | 0, _, h => by
    have hm : (i : Int) ∈ O := hO.symm.subset (mem_pl.2 ⟨by omega, by omega⟩)
    obtain ⟨j, hj, e⟩ := List.getElem_of_mem hm
    exact absurd (by rw [e]; exact nm_at hi) (h j hj (Nat.zero_le _))
  | k + 1, hk, h => by
    have hk1 : k < O.length := by omega
    have hp := mem_pl.1 (hO.subset (List.getElem_mem hk1))
    obtain ⟨q, hq⟩ : ∃ q : Nat, O[k] = q := ⟨O[k].toNat, by omega⟩
    have hql : q < l.length := by omega
    have hOl : O.length = l.length := by rw [hO.length_eq]; unfold pl; rw [List.length_map, List.length_range]
    have e0 : ((k + 1 : Nat) : Int) - 1 = (k : Int) := by omega
    have st : ∀ (m : Nat) (K : List (List UInt8) → List TSGiven → List Int → Option (List TSGiven)) (ns : List (List UInt8)), clerestoryref2_WinOf_l9 O l (i : Int) out K (m + (k + 1) + 1) ns (((k + 1 : Nat) : Int) - 1) =
        if l[q].Name = l[i].Name then ((app? 64 out [l[q]]).bind fun r => K ns r O) else clerestoryref2_WinOf_l9 O l (i : Int) out K (m + k + 1) ns ((k : Int) - 1) := by
      intro m K ns
      rw [e0, clerestoryref2_WinOf_l9, if_pos (by simp only [decide_eq_true_eq]; omega), at_some hk1, Option.bind_some, hq, at_some hql, Option.bind_some, at_some hi, Option.bind_some, Option.bind_some, wi_id (by omega) (by omega)]
      by_cases e : l[q].Name = l[i].Name
      · rw [if_pos (by simpa using e), if_pos e, at_some hql, Option.bind_some]
      · rw [if_neg (by simpa using e), if_neg e]; rfl
    by_cases e : l[q].Name = l[i].Name
    · refine ⟨q, l[q], ⟨by omega, by omega, by rw [nm_at hql]; exact e, fun r r0 r1 r2 r3 => ?_⟩, at_some hql, fun m K ns => by rw [st, if_pos e]⟩
      have hm : r ∈ O := hO.symm.subset (mem_pl.2 ⟨r0, r1⟩)
      obtain ⟨j, hj, ej⟩ := List.getElem_of_mem hm
      rcases Nat.lt_trichotomy j k with c | c | c
      · have := List.pairwise_iff_getElem.1 hs j k hj hk1 c
        rw [ej, hq] at this
        exact this
      · subst c; rw [hq] at ej; exact absurd ej.symm r3
      · exact absurd (by rw [ej]; exact r2) (h j hj (by omega))
    · obtain ⟨p, g, h1, h2, h3⟩ := top_loop l O hO hs i hi hl out k (by omega) fun j hj hkj => by
        by_cases c : j = k
        · subst c; rw [hq, nm_at hql]; exact e
        · exact h j hj (by omega)
      exact ⟨p, g, h1, h2, fun m K ns => by rw [st, if_neg e]; exact h3 m K ns⟩
theorem of_loop (l : List TSGiven) (hl : l.length ≤ 60) (O : List Int) (hO : O.Perm (pl l.length)) (hs : O.Pairwise (Before l)) : ∀ (d i : Nat) (out : List TSGiven), i + d = l.length → Best l l.length (nms l i) out →
    ∃ out', Best l l.length (nms l l.length) out' ∧ ∀ k, clerestoryref2_WinOf_l6 l (fun out1 => some out1) (k + d + 1) (nms l i) out O (i : Int) = some out'
  | 0, i, out, hi, hb => by
    obtain rfl : i = l.length := by omega
    refine ⟨out, hb, fun k => ?_⟩
    rw [clerestoryref2_WinOf_l6, if_neg (by simp)]
  | d + 1, i, out, hi, hb => by
    have h1 : i < l.length := by omega
    have hlen := nms_len l i
    have hOl : O.length = l.length := by rw [hO.length_eq]; unfold pl; rw [List.length_map, List.length_range]
    have e1 : (i : Int) + 1 = ((i + 1 : Nat) : Int) := by omega
    by_cases hmem : l[i].Name ∈ nms l i
    · have hns := nms_old h1 hmem
      obtain ⟨out', o1, o2⟩ := of_loop l hl O hO hs d (i + 1) out (by omega) (by rw [hns]; exact hb)
      refine ⟨out', o1, fun k => ?_⟩
      rw [clerestoryref2_WinOf_l6, if_pos (by simp only [decide_eq_true_eq]; omega), at_some h1, Option.bind_some, in_eq _ _ (by omega), Option.bind_some, if_pos (by simpa using hmem)]
      unfold clerestoryref2_WinOf_j3
      rw [wi_id (by omega) (by omega), e1]
      have := o2 k
      rw [hns] at this
      exact this
    · have hns := nms_new h1 hmem
      obtain ⟨p, g, t1, t2, t3⟩ := top_loop l O hO hs i h1 hl out O.length (Nat.le_refl _) fun j hj h => by omega
      have hb' : Best l l.length (nms l (i + 1)) (out ++ [g]) := by
        rw [hns]
        refine ⟨by simp [hb.1], fun j2 h2 h3 => ?_⟩
        by_cases e : j2 < (nms l i).length
        · obtain ⟨p2, hp2, ep2⟩ := hb.2 j2 e (by rw [hb.1]; exact e)
          refine ⟨p2, ?_, by rw [List.getElem_append_left (by rw [hb.1]; exact e)]; exact ep2⟩
          rw [List.getElem_append_left e]
          exact hp2
        · have e2 : j2 = (nms l i).length := by rw [List.length_append] at h2; simp at h2; omega
          subst e2
          refine ⟨p, ?_, ?_⟩
          · rw [List.getElem_append_right (Nat.le_refl _)]
            simp only [Nat.sub_self, List.getElem_cons_zero]
            exact t1
          · rw [t2, List.getElem_append_right (by rw [hb.1]; exact Nat.le_refl _)]
            simp [hb.1]
      obtain ⟨out', o1, o2⟩ := of_loop l hl O hO hs d (i + 1) _ (by omega) hb'
      refine ⟨out', o1, fun k => ?_⟩
      rw [clerestoryref2_WinOf_l6, if_pos (by simp only [decide_eq_true_eq]; omega), at_some h1, Option.bind_some, in_eq _ _ (by omega), Option.bind_some, if_neg (by simpa using hmem), Option.bind_some, appq (by simp; omega), Option.bind_some]
      refine lim_add (O.length + 1) fun m => ?_
      rw [wi_id (by omega) (by omega), show m + (O.length + 1) = m + O.length + 1 from rfl, t3 m, appq (by rw [hb.1]; simp; omega), Option.bind_some]
      unfold clerestoryref2_WinOf_j3
      rw [wi_id (by omega) (by omega), e1, ← hns]
      exact o2 k
theorem of_eq (l : List TSGiven) (hl : l.length ≤ 60) : ∃ out, Best l l.length (nms l l.length) out ∧ clerestoryref2_WinOf l = some out := by
  obtain ⟨O, h1, h2, h3⟩ := order_of l hl
  obtain ⟨out, g1, g2⟩ := of_loop l hl O h1 h2 l.length 0 [] (by omega) ⟨rfl, fun j h _ => by simp [nms] at h⟩
  refine ⟨out, g1, ?_⟩
  unfold clerestoryref2_WinOf
  rw [h3, Option.bind_some]
  exact lim_add (l.length + 1) fun k => g2 k
theorem same_loop (a : List TSGiven) (ha : a.length ≤ 1000) : ∀ (d i : Nat), i + d = a.length → ∀ m, clerestorylaw2_CascadeWins_l0 true (fun _ => some true) (m + d + 1) a a (i : Int) = some true
  | 0, i, hi, m => by
    rw [clerestorylaw2_CascadeWins_l0, if_neg (by simp only [decide_eq_true_eq]; omega)]
  | d + 1, i, hi, m => by
    have h1 : i < a.length := by omega
    rw [clerestorylaw2_CascadeWins_l0, if_pos (by simp only [decide_eq_true_eq]; omega), at_some h1, Option.bind_some, Option.bind_some, letIn_eq, if_neg (by simp), wi_id (by omega) (by omega), show (i : Int) + 1 = ((i + 1 : Nat) : Int) by omega, show m + (d + 1) = m + d + 1 by omega]
    exact same_loop a ha d (i + 1) (by omega) m
theorem pureCascadeWins : PureCascadeWins := by
  intro l hok
  unfold clerestorylaw2_CascadeWins
  rw [own_eq, Option.bind_some]
  have hmn : mn (l.length : Int) 60 = ((min l.length 60 : Nat) : Int) := by unfold mn; split <;> omega
  rw [hmn, sub_take (Nat.min_le_left _ _), Option.bind_some]
  have hlen : (l.take (min l.length 60)).length ≤ 60 := by rw [List.length_take]; omega
  generalize l.take (min l.length 60) = l' at hlen
  obtain ⟨a, a1, a2⟩ := win_eq l' hlen
  obtain ⟨b, b1, b2⟩ := of_eq l' hlen
  obtain rfl := best_unique a1 b1
  have := nms_len l' l'.length
  rw [a2, b2, Option.bind_some, Option.bind_some, if_neg (by simp)]
  exact lim_add (a.length + 1) fun m => same_loop a (by rw [a1.1]; omega) a.length 0 (by omega) m
end Go.Proofs.YtagfmlkihindaaaBv
