/- A document that is right: each node lies once among the kids of its parent. No program is in sight. -/
import Derived.Test.YtoomjemboekooaaDoorDomEventSays
namespace Go.Proofs.YtoomjemboekooaaDoorBv
open Go
set_option linter.unusedSimpArgs false
set_option linter.unusedVariables false
def Adds (d : TDoc) (i : Nat) : List Bool → List Int → List Bool → Prop
  | s, [], s' => s = s'
  | s, k :: r, s' => ∃ j : Nat, k = (j : Int) ∧ j < s.length ∧ s[j]? = some false ∧ Adds d i (s.set j true) r s'
theorem adds_from {d : TDoc} {i : Nat} : ∀ {L : List Int} {s s' : List Bool}, Adds d i s L s' → ∀ j : Nat, s'[j]? = some true → s[j]? = some true ∨ (j : Int) ∈ L
  | [], s, s', h, j, hj => by
    have e : s = s' := h
    subst e
    exact .inl hj
  | k :: r, s, s', h, j, hj => by
    obtain ⟨q, hk, hq, h0, hr⟩ := h
    rcases adds_from hr j hj with h1 | h1
    · by_cases e : j = q
      · subst e; exact .inr (by rw [hk]; exact List.mem_cons_self ..)
      · rw [List.getElem?_set_ne (Ne.symm e)] at h1
        exact .inl h1
    · exact .inr (List.mem_cons_of_mem _ h1)
theorem adds_nodup {d : TDoc} {i : Nat} : ∀ {L : List Int} {s s' : List Bool}, Adds d i s L s' → L.Nodup ∧ ∀ k, k ∈ L → ∃ j : Nat, k = (j : Int) ∧ s[j]? = some false
  | [], s, s', h => ⟨List.nodup_nil, fun k hk => by cases hk⟩
  | k :: r, s, s', h => by
    obtain ⟨q, hk, hq, h0, hr⟩ := h
    obtain ⟨n1, n2⟩ := adds_nodup hr
    have hne : ∀ x, x ∈ r → x ≠ k ∧ ∃ j : Nat, x = (j : Int) ∧ s[j]? = some false := by
      intro x hx
      obtain ⟨j, hj, hs⟩ := n2 x hx
      by_cases e : j = q
      · subst e
        rw [List.getElem?_set_self hq] at hs
        cases hs
      · rw [List.getElem?_set_ne (Ne.symm e)] at hs
        exact ⟨by rw [hj, hk]; omega, j, hj, hs⟩
    refine ⟨List.nodup_cons.2 ⟨fun hm => (hne k hm).1 rfl, n1⟩, fun x hx => ?_⟩
    rcases List.mem_cons.1 hx with rfl | hx
    · exact ⟨q, hk, h0⟩
    · exact (hne x hx).2
theorem l3_inv (d : TDoc) (i : Nat) (x : TNode) (hl : x.Kids.length ≤ 140737488355328) (K : List Bool → Option Int) : ∀ (N j : Nat) (s : List Bool), j ≤ x.Kids.length → dom_kids_l3 x (i : Int) d K N s (j : Int) = some 0 → ∃ s', K s' = some 0 ∧ Adds d i s (x.Kids.drop j) s'
  | 0, j, s, hj, h => by rw [dom_kids_l3] at h; cases h
  | N + 1, j, s, hj, h => by
    rw [dom_kids_l3] at h
    by_cases c : j < x.Kids.length
    · rw [if_pos (by simp only [decide_eq_true_eq]; omega), at_some c, Option.bind_some] at h
      have bad : ∀ v, dom_kids_j17 (i : Int) d x.Kids[j] (j : Int) x (dom_kids_l3 x (i : Int) d K N) K s v = some 0 → v = false ∧ ∃ q : Nat, True ∧ dom_kids_l3 x (i : Int) d K N (s.set x.Kids[j].toNat true) ((j + 1 : Nat) : Int) = some 0 := by
        intro v hv
        have j18 : ∀ b, dom_kids_j18 x.Kids[j] (j : Int) (i : Int) d x (dom_kids_l3 x (i : Int) d K N) K s b = some 0 → dom_kids_l3 x (i : Int) d K N (s.set x.Kids[j].toNat true) ((j + 1 : Nat) : Int) = some 0 := by
          intro b hb
          unfold dom_kids_j18 at hb
          split at hb
          · cases hb
          · obtain ⟨y, _, hb⟩ := Option.bind_eq_some_iff.1 hb
            rw [wi_id (by omega) (by omega), show (j : Int) + 1 = ((j + 1 : Nat) : Int) by omega] at hb
            exact hb
        unfold dom_kids_j17 at hv
        cases v with
        | true => rw [if_pos rfl] at hv; cases hv
        | false =>
          rw [if_neg (by simp)] at hv
          refine ⟨rfl, 0, trivial, ?_⟩
          split at hv
          · obtain ⟨y, _, hv⟩ := Option.bind_eq_some_iff.1 hv
            exact j18 _ hv
          · exact j18 _ hv
      split at h
      · exact absurd (bad true h).1 (by simp)
      · rename_i hr
        simp only [Bool.or_eq_true, decide_eq_true_eq] at hr
        obtain ⟨y, _, h⟩ := Option.bind_eq_some_iff.1 h
        split at h
        · exact absurd (bad true h).1 (by simp)
        · obtain ⟨b, hb, h⟩ := Option.bind_eq_some_iff.1 h
          obtain ⟨hb0, _, _, h⟩ := bad b h
          obtain ⟨q, hq⟩ : ∃ q : Nat, x.Kids[j] = (q : Int) := ⟨x.Kids[j].toNat, by omega⟩
          obtain ⟨s', h1, h2⟩ := l3_inv d i x hl K N (j + 1) _ (by omega) h
          refine ⟨s', h1, ?_⟩
          rw [List.drop_eq_getElem_cons c]
          refine ⟨q, hq, by omega, ?_, ?_⟩
          · rw [hq, at_nat] at hb
            rw [hb, hb0]
          · rw [hq, Int.toNat_natCast] at h2
            exact h2
    · rw [if_neg (by simp only [decide_eq_true_eq]; omega)] at h
      rw [List.drop_of_length_le (by omega)]
      exact ⟨s, h, rfl⟩
theorem l2_inv (d : TDoc) (hn : d.Nodes.length ≤ 200) (hk : ∀ x, x ∈ d.Nodes → x.Kids.length ≤ 140737488355328) (K : List Bool → Option Int) : ∀ (N i : Nat) (s : List Bool), i ≤ d.Nodes.length → dom_kids_l2 d K N s (i : Int) = some 0 →
    ∃ s', K s' = some 0 ∧ (∀ (q : Nat) (h : q < d.Nodes.length), i ≤ q → d.Nodes[q].Kids.Nodup) ∧ ∀ j : Nat, s'[j]? = some true → s[j]? = some true ∨ ∃ (q : Nat) (h : q < d.Nodes.length), (j : Int) ∈ d.Nodes[q].Kids
  | 0, i, s, hi, h => by rw [dom_kids_l2] at h; cases h
  | N + 1, i, s, hi, h => by
    rw [dom_kids_l2] at h
    by_cases c : i < d.Nodes.length
    · rw [if_pos (by simp only [decide_eq_true_eq]; omega), at_some c, Option.bind_some] at h
      obtain ⟨kk, h⟩ := lim_some h
      obtain ⟨s1, h1, h2⟩ := l3_inv d i d.Nodes[i] (hk _ (List.getElem_mem c)) _ kk 0 s (by omega) h
      rw [wi_id (by omega) (by omega), show (i : Int) + 1 = ((i + 1 : Nat) : Int) by omega] at h1
      obtain ⟨s', a1, a2, a3⟩ := l2_inv d hn hk K N (i + 1) s1 (by omega) h1
      rw [List.drop_zero] at h2
      refine ⟨s', a1, fun q hq hle => ?_, fun j hj => ?_⟩
      · by_cases e : q = i
        · subst e; exact (adds_nodup h2).1
        · exact a2 q hq (by omega)
      · rcases a3 j hj with h3 | h3
        · rcases adds_from h2 j h3 with h4 | h4
          · exact .inl h4
          · exact .inr ⟨i, c, h4⟩
        · exact .inr h3
    · rw [if_neg (by simp only [decide_eq_true_eq]; omega)] at h
      exact ⟨s, h, fun q hq hle => by omega, fun j hj => .inl hj⟩
theorem l4_inv (d : TDoc) (hn : d.Nodes.length ≤ 200) (K : Unit → Option Int) (s : List Bool) : ∀ (N i : Nat), i ≤ d.Nodes.length → dom_kids_l4 d K N s (i : Int) = some 0 → ∀ (q : Nat) (h : q < d.Nodes.length), i ≤ q → d.Nodes[q].Parent = -1 ∨ s[q]? = some true
  | 0, i, hi, h, q, hq, hle => by rw [dom_kids_l4] at h; cases h
  | N + 1, i, hi, h, q, hq, hle => by
    have c : i < d.Nodes.length := by omega
    rw [dom_kids_l4, if_pos (by simp only [decide_eq_true_eq]; omega), at_some c, Option.bind_some] at h
    have j21 : ∀ v, dom_kids_j21 (i : Int) d (dom_kids_l4 d K N) K s v = some 0 → v = false ∧ dom_kids_l4 d K N s ((i + 1 : Nat) : Int) = some 0 := by
      intro v hv
      unfold dom_kids_j21 at hv
      cases v with
      | true => rw [if_pos rfl] at hv; cases hv
      | false =>
        rw [if_neg (by simp), wi_id (by omega) (by omega), show (i : Int) + 1 = ((i + 1 : Nat) : Int) by omega] at hv
        exact ⟨rfl, hv⟩
    split at h
    · obtain ⟨b, hb, h⟩ := Option.bind_eq_some_iff.1 h
      obtain ⟨h1, h2⟩ := j21 _ h
      by_cases e : q = i
      · subst e
        rw [at_nat] at hb
        refine .inr ?_
        rw [hb]
        cases b <;> simp_all
      · exact l4_inv d hn K s N (i + 1) (by omega) h2 q hq (by omega)
    · rename_i hp
      obtain ⟨h1, h2⟩ := j21 _ h
      by_cases e : q = i
      · subst e
        exact .inl (by simpa using hp)
      · exact l4_inv d hn K s N (i + 1) (by omega) h2 q hq (by omega)
structure Full (d : TDoc) : Prop where
  nodup : ∀ (q : Nat) (h : q < d.Nodes.length), d.Nodes[q].Kids.Nodup
  kid : ∀ (q : Nat) (h : q < d.Nodes.length), d.Nodes[q].Parent = -1 ∨ ∃ (p : Nat) (hp : p < d.Nodes.length), (q : Int) ∈ d.Nodes[p].Kids
theorem c0_inv (d : TDoc) (hn : d.Nodes.length ≤ 200) (K : Unit → Option Int) : ∀ (N i : Nat), i ≤ d.Nodes.length → dom_Check_l0 d K N (i : Int) = some 0 → K () = some 0
  | 0, i, hi, h => by rw [dom_Check_l0] at h; cases h
  | N + 1, i, hi, h => by
    rw [dom_Check_l0] at h
    by_cases c : i < d.Nodes.length
    · rw [if_pos (by simp only [decide_eq_true_eq]; omega), at_some c, Option.bind_some] at h
      split at h
      · cases h
      · obtain ⟨r, _, h⟩ := Option.bind_eq_some_iff.1 h
        split at h
        · rename_i hr
          cases h
          simp at hr
        · rw [wi_id (by omega) (by omega), show (i : Int) + 1 = ((i + 1 : Nat) : Int) by omega] at h
          exact c0_inv d hn K N (i + 1) (by omega) h
    · rw [if_neg (by simp only [decide_eq_true_eq]; omega)] at h
      exact h
theorem full_of {d : TDoc} (hk : ∀ x, x ∈ d.Nodes → x.Kids.length ≤ 140737488355328) (hd : DocOK d) (h : dom_Check d = some 0) : Full d := by
  have hn := hd.many
  unfold dom_Check at h
  split at h
  · cases h
  · split at h
    · cases h
    · obtain ⟨kk, h⟩ := lim_some h
      have h1 := c0_inv d hn _ kk 0 (by omega) h
      obtain ⟨r, hr, h1⟩ := Option.bind_eq_some_iff.1 h1
      have hr0 : r = 0 := by
        split at h1
        · rename_i hc
          cases h1
          simp at hc
        · rename_i hc
          simpa using hc
      rw [hr0] at hr
      unfold dom_kids at hr
      rw [mkl_some (by omega) (Int.le_refl _) (by omega) (by omega), Option.bind_some, Int.toNat_natCast] at hr
      obtain ⟨k2, hr⟩ := lim_some hr
      obtain ⟨s', a1, a2, a3⟩ := l2_inv d hn hk _ k2 0 _ (by omega) hr
      obtain ⟨k1, a1⟩ := lim_some a1
      have a4 := l4_inv d hn _ s' k1 0 (by omega) a1
      refine ⟨fun q hq => a2 q hq (by omega), fun q hq => ?_⟩
      rcases a4 q hq (by omega) with h5 | h5
      · exact .inl h5
      · rcases a3 q h5 with h6 | h6
        · rw [List.getElem?_replicate] at h6
          split at h6 <;> cases h6
        · exact .inr h6
end Go.Proofs.YtoomjemboekooaaDoorBv
