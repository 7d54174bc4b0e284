/- A document that is right: the way up ends, and attributes are short. No program is in sight. -/
import Derived.Test.YtoomjemboekooaaDoorDomEventSays
namespace Go.Proofs.YtoomjemboekooaaDoorBv
open Go
set_option linter.unusedSimpArgs false
set_option linter.unusedVariables false
/-- so many steps lead up to the root -/
def Hgt (d : TDoc) : Nat → Nat → Prop
  | 0, i => ∃ h : i < d.Nodes.length, d.Nodes[i].Parent < 0
  | n + 1, i => ∃ h : i < d.Nodes.length, ∃ j : Nat, d.Nodes[i].Parent = (j : Int) ∧ Hgt d n j
theorem up_hgt (d : TDoc) (hn : d.Nodes.length ≤ 200) (hp : ParOK d) : ∀ (c i many : Nat), i < d.Nodes.length → many + c = d.Nodes.length + 1 → ∃ r : Int, (∀ m, dom_up_l0 d (fun many1 => some many1) (m + c + 1) (i : Int) (many : Int) = some r) ∧ (r ≤ (d.Nodes.length : Int) → ∃ h, Hgt d h i)
  | 0, i, many, hi, hc => by
    refine ⟨many, fun m => ?_, fun h => by omega⟩
    rw [dom_up_l0, at_some hi, Option.bind_some, if_neg (by simp only [Bool.and_eq_true, decide_eq_true_eq]; omega)]
  | c + 1, i, many, hi, hc => by
    by_cases hpar : 0 ≤ d.Nodes[i].Parent
    · have := hp i hi
      obtain ⟨j, ej⟩ : ∃ j : Nat, d.Nodes[i].Parent = j := ⟨d.Nodes[i].Parent.toNat, by omega⟩
      obtain ⟨r, hr, hh⟩ := up_hgt d hn hp c j (many + 1) (by omega) (by omega)
      refine ⟨r, fun m => ?_, fun h => ?_⟩
      · rw [dom_up_l0, at_some hi, Option.bind_some, if_pos (by simp only [Bool.and_eq_true, decide_eq_true_eq]; omega), Option.bind_some, ej, wi_id (by omega) (by omega), show (many : Int) + 1 = ((many + 1 : Nat) : Int) by omega]
        exact hr m
      · obtain ⟨n, hN⟩ := hh h
        exact ⟨n + 1, hi, j, ej, hN⟩
    · refine ⟨many, fun m => ?_, fun _ => ⟨0, hi, by omega⟩⟩
      rw [dom_up_l0, at_some hi, Option.bind_some, if_neg (by simp only [Bool.and_eq_true, decide_eq_true_eq]; omega)]
theorem hgt_of {d : TDoc} (h : DocOK d) (i : Nat) (hi : i < d.Nodes.length) : ∃ n, Hgt d n i := by
  obtain ⟨r, hr, h2⟩ := up_hgt d h.many h.par (d.Nodes.length + 1) i 0 hi (by omega)
  obtain ⟨r', h3, _, h4⟩ := h.deep i hi
  have e : dom_up d (i : Int) = some r := by
    unfold dom_up
    exact lim_add (d.Nodes.length + 1 + 1) fun m => hr m
  rw [e] at h3
  cases h3
  exact h2 h4
theorem hgt_lt {d : TDoc} : ∀ {n i : Nat}, Hgt d n i → i < d.Nodes.length
  | 0, _, ⟨h, _⟩ => h
  | _ + 1, _, ⟨h, _⟩ => h
theorem attrs_short (l : List TAttr) (hl : l.length ≤ 12) : ∀ (c i : Nat), i + c = l.length → (∀ m, dom_attrs_l0 l (fun _ => some 0) (m + c + 1) (i : Int) = some 0) → ∀ (q : Nat) (h : q < l.length), i ≤ q → l[q].Value.length ≤ 400
  | 0, i, hi, _, q, h, hq => by omega
  | c + 1, i, hi, hr, q, h, hq => by
    have hl' : i < l.length := by omega
    obtain ⟨b, hb⟩ := attrName_tot l[i].Name
    obtain ⟨f, hf⟩ := find_tot (l.take i) l[i].Name (by rw [List.length_take]; omega)
    obtain ⟨r2, hr2⟩ := attrs_loop l hl c (i + 1) (by omega)
    have go : ∀ m, dom_attrs_l0 l (fun _ => some 0) (m + (c + 1) + 1) (i : Int) = if (!b) then some 3 else if decide (400 < (l[i].Value.length : Int)) then some 2 else if decide (0 ≤ f) then some 3 else dom_attrs_l0 l (fun _ => some 0) (m + c + 1) ((i + 1 : Nat) : Int) := by
      intro m
      rw [dom_attrs_l0, if_pos (by simp only [decide_eq_true_eq]; omega), at_some hl', Option.bind_some, hb, Option.bind_some, sub_take (by omega), Option.bind_some, hf, Option.bind_some, wi_id (by omega) (by omega), show (i : Int) + 1 = ((i + 1 : Nat) : Int) by omega, show m + (c + 1) = m + c + 1 by omega]
    have h0 := hr 0
    rw [go] at h0
    split at h0
    · cases h0
    · split at h0
      · cases h0
      · rename_i hv
        split at h0
        · cases h0
        · rename_i hff
          by_cases hqi : q = i
          · subst hqi
            simp only [decide_eq_true_eq] at hv
            omega
          · refine attrs_short l hl c (i + 1) (by omega) (fun m => ?_) q h (by omega)
            rw [hr2]
            rw [hr2] at h0
            exact h0
theorem one_short {x : TNode} (h : dom_one x = some 0) : ∀ a, a ∈ x.Attrs → a.Value.length ≤ 400 := by
  have j : ∀ v, dom_one_j1 x v = some 0 → dom_attrs x.Attrs = some 0 := by
    intro v hv
    unfold dom_one_j1 at hv
    split at hv
    · cases hv
    · obtain ⟨r, hr, hv⟩ := Option.bind_eq_some_iff.1 hv
      split at hv
      · rename_i hc
        cases hv
        simp at hc
      · rename_i hc
        have : r = 0 := by simpa using hc
        rw [this] at hr
        exact hr
  have ha : dom_attrs x.Attrs = some 0 := by
    unfold dom_one at h
    split at h
    · cases h
    · split at h
      · obtain ⟨r, _, h⟩ := Option.bind_eq_some_iff.1 h
        exact j _ h
      · exact j _ h
  unfold dom_attrs at ha
  split at ha
  · cases ha
  · rename_i hc
    have hl : x.Attrs.length ≤ 12 := by simp only [decide_eq_true_eq] at hc; omega
    obtain ⟨r, hr⟩ := attrs_loop x.Attrs hl x.Attrs.length 0 (by omega)
    have e : lim (fun kk => dom_attrs_l0 x.Attrs (fun (_ : Unit) => some 0) kk 0) = some r := lim_add (x.Attrs.length + 1) fun m => hr m
    rw [e] at ha
    cases ha
    intro a hm
    obtain ⟨q, hq, rfl⟩ := List.getElem_of_mem hm
    exact attrs_short x.Attrs hl x.Attrs.length 0 (by omega) hr q hq (by omega)
theorem attr_len {x : TNode} (h : dom_one x = some 0) : x.Attrs.length ≤ 12 := by
  have j : ∀ v, dom_one_j1 x v = some 0 → dom_attrs x.Attrs = some 0 := by
    intro v hv
    unfold dom_one_j1 at hv
    split at hv
    · cases hv
    · obtain ⟨r, hr, hv⟩ := Option.bind_eq_some_iff.1 hv
      split at hv
      · rename_i hc
        cases hv
        simp at hc
      · rename_i hc
        have : r = 0 := by simpa using hc
        rw [this] at hr
        exact hr
  have ha : dom_attrs x.Attrs = some 0 := by
    unfold dom_one at h
    split at h
    · cases h
    · split at h
      · obtain ⟨r, _, h⟩ := Option.bind_eq_some_iff.1 h
        exact j _ h
      · exact j _ h
  unfold dom_attrs at ha
  split at ha
  · cases ha
  · rename_i hc
    simp only [decide_eq_true_eq] at hc; omega
end Go.Proofs.YtoomjemboekooaaDoorBv
