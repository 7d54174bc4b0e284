/- The way up in a document: by parents, and by kids. No program is in sight. -/
import Derived.Test.YtoomjemboekooaaDoorDomUpEventSays
import Derived.Test.YtoomjemboekooaaDoorDomKidsEventSays
import Derived.Test.YtoomjemboekooaaDoorRoundsEventSays
namespace Go.Proofs.YtoomjemboekooaaDoorBv
open Go
set_option linter.unusedSimpArgs false
set_option linter.unusedVariables false
theorem up_hgt2 (d : TDoc) (hn : d.Nodes.length ≤ 200) (hp : ParOK d) : ∀ (c i many : Nat), i < d.Nodes.length → many + c = d.Nodes.length + 1 → ∃ r : Int, (∀ m, dom_up_l0 d (fun many1 => some many1) (m + c + 1) (i : Int) (many : Int) = some r) ∧ (r ≤ (d.Nodes.length : Int) → ∃ h, h ≤ c ∧ Hgt d h i)
  | 0, i, many, hi, hc => by
    refine ⟨many, fun m => ?_, fun h => by omega⟩
    rw [dom_up_l0, at_some hi, Option.bind_some, if_neg (by simp only [Bool.and_eq_true, decide_eq_true_eq]; omega)]
  | c + 1, i, many, hi, hc => by
    by_cases hpar : 0 ≤ d.Nodes[i].Parent
    · have := hp i hi
      obtain ⟨j, ej⟩ : ∃ j : Nat, d.Nodes[i].Parent = j := ⟨d.Nodes[i].Parent.toNat, by omega⟩
      obtain ⟨r, hr, hh⟩ := up_hgt2 d hn hp c j (many + 1) (by omega) (by omega)
      refine ⟨r, fun m => ?_, fun h => ?_⟩
      · rw [dom_up_l0, at_some hi, Option.bind_some, if_pos (by simp only [Bool.and_eq_true, decide_eq_true_eq]; omega), Option.bind_some, ej, wi_id (by omega) (by omega), show (many : Int) + 1 = ((many + 1 : Nat) : Int) by omega]
        exact hr m
      · obtain ⟨n, h1, hN⟩ := hh h
        exact ⟨n + 1, by omega, hi, j, ej, hN⟩
    · refine ⟨many, fun m => ?_, fun _ => ⟨0, by omega, hi, by omega⟩⟩
      rw [dom_up_l0, at_some hi, Option.bind_some, if_neg (by simp only [Bool.and_eq_true, decide_eq_true_eq]; omega)]
theorem hgt_le {d : TDoc} (h : DocOK d) (i : Nat) (hi : i < d.Nodes.length) : ∃ n, n ≤ 201 ∧ Hgt d n i := by
  have h200 := h.many
  obtain ⟨r, hr, h2⟩ := up_hgt2 d h.many h.par (d.Nodes.length + 1) i 0 hi (by omega)
  obtain ⟨r', h3, _, h4⟩ := h.deep i hi
  have e : dom_up d (i : Int) = some r := by
    unfold dom_up
    exact lim_add (d.Nodes.length + 1 + 1) fun m => hr m
  rw [e] at h3
  cases h3
  obtain ⟨n, a, b⟩ := h2 h4
  exact ⟨n, by omega, b⟩
/-- from a node up -/
def chn (d : TDoc) : Nat → Nat → List Int
  | 0, i => [(i : Int)]
  | h + 1, i => (i : Int) :: chn d h (match d.Nodes[i]? with | some x => x.Parent.toNat | none => 0)
theorem chn_len (d : TDoc) : ∀ h i, (chn d h i).length = h + 1
  | 0, i => rfl
  | h + 1, i => by rw [chn, List.length_cons, chn_len]
theorem path_loop (d : TDoc) (K : List Int → Option (List Int × Int)) : ∀ (h i : Nat) (out : List Int), Hgt d h i → out.length + h ≤ 1000 → ∀ m, event_Path_l0 d K (m + h + 2) (i : Int) out = K (out ++ chn d h i)
  | 0, i, out, hh, hl, m => by
    obtain ⟨hi, hp⟩ := hh
    rw [event_Path_l0, if_pos (by simp), appq (by simp; omega), Option.bind_some, at_some hi, Option.bind_some, event_Path_l0, if_neg (by simpa using hp)]
    rfl
  | h + 1, i, out, hh, hl, m => by
    obtain ⟨hi, j, ej, hj⟩ := hh
    have ec : chn d (h + 1) i = (i : Int) :: chn d h j := by
      rw [chn, List.getElem?_eq_getElem hi]
      simp only [ej, Int.toNat_natCast]
    rw [event_Path_l0, if_pos (by simp), appq (by simp; omega), Option.bind_some, at_some hi, Option.bind_some, ej, show m + (h + 1) + 1 = m + h + 2 by omega, path_loop d K h j _ hj (by simp; omega), ec, List.append_assoc]
    rfl
theorem rev_loop (l : List Int) (hl : l.length ≤ 1000) : ∀ (c i : Nat) (s : List Int), i ≤ l.length → l.length ≤ i + i + c → s.length = l.length → (∀ k, k < l.length → s[k]? = if i ≤ k ∧ k + i < l.length then l[k]? else l[l.length - 1 - k]?) →
    ∀ m, slices_Reverse_int_l0 (fun s => some s) (m + c + 1) s (i : Int) ((l.length : Int) - 1 - (i : Int)) = some l.reverse
  | c, i, s, hi, hc, hs, hk, m => by
    by_cases hlt : i + i + 1 < l.length
    · obtain ⟨c, rfl⟩ : ∃ c', c = c' + 1 := ⟨c - 1, by omega⟩
      have hi1 : i < s.length := by omega
      have hj1 : l.length - 1 - i < s.length := by omega
      have ej : (l.length : Int) - 1 - (i : Int) = ((l.length - 1 - i : Nat) : Int) := by omega
      rw [slices_Reverse_int_l0, if_pos (by simp only [decide_eq_true_eq]; omega), ej, at_some hj1, Option.bind_some, at_some hi1, Option.bind_some, Option.bind_some, at_some (by rw [List.length_set]; omega), Option.bind_some, Int.toNat_natCast, Int.toNat_natCast, wi_id (by omega) (by omega), wi_id (by omega) (by omega),
        show (i : Int) + 1 = ((i + 1 : Nat) : Int) by omega, show ((l.length - 1 - i : Nat) : Int) - 1 = (l.length : Int) - 1 - ((i + 1 : Nat) : Int) by omega, show m + (c + 1) = m + c + 1 by omega]
      refine rev_loop l hl c (i + 1) _ (by omega) (by omega) (by simp [hs]) (fun k hkl => ?_) m
      have h1 := hk i (by omega)
      have h2 := hk (l.length - 1 - i) (by omega)
      rw [if_pos (by omega)] at h1 h2
      by_cases ek : k = l.length - 1 - i
      · subst ek
        rw [List.getElem?_set_self (by simp; omega), if_neg (by omega), show l.length - 1 - (l.length - 1 - i) = i by omega, ← h1, List.getElem?_eq_getElem hi1]
      · rw [List.getElem?_set_ne (Ne.symm ek)]
        by_cases ek2 : k = i
        · subst ek2
          rw [List.getElem?_set_self (by omega), if_neg (by omega), ← h2, List.getElem?_eq_getElem hj1]
        · rw [List.getElem?_set_ne (Ne.symm ek2), hk k hkl]
          by_cases hc1 : i ≤ k ∧ k + i < l.length
          · rw [if_pos hc1, if_pos (by omega)]
          · rw [if_neg hc1, if_neg (by omega)]
    · rw [slices_Reverse_int_l0, if_neg (by simp only [decide_eq_true_eq]; omega)]
      congr 1
      apply List.ext_getElem?
      intro k
      by_cases hkl : k < l.length
      · rw [hk k hkl, List.getElem?_reverse hkl]
        split
        · rename_i hc1
          rw [show l.length - 1 - k = k by omega]
        · rfl
      · rw [List.getElem?_eq_none (by omega), List.getElem?_eq_none (by simp; omega)]
theorem rev_eq (l : List Int) (hl : l.length ≤ 1000) : slices_Reverse_int l = some l.reverse := by
  unfold slices_Reverse_int
  rw [wi_id (by omega) (by omega)]
  refine lim_add (l.length + 1) fun m => ?_
  have := rev_loop l hl l.length 0 l (by omega) (by omega) rfl (fun k hk => by rw [if_pos (by omega)]) m
  rw [show (l.length : Int) - 1 - ((0 : Nat) : Int) = (l.length : Int) - 1 by omega] at this
  exact this
/-! ### by kids -/
theorem contains_eq (l : List Int) (v : Int) (hl : l.length ≤ 140737488355328) : ∃ b, slices_Contains_int l v = some b ∧ (b = true ↔ v ∈ l) := by
  unfold slices_Contains_int slices_Index_int
  rcases rounds_lim (fun k (_ : Unit) i => slices_Index_int_l0 l v (fun _ => some (-1)) k i) (fun _ => some (-1)) l.length (fun i _ => v ∉ l.take i) (fun r => ∃ i : Nat, r = some (i : Int) ∧ v ∈ l) () (by simp)
    (fun m s hs => by rw [slices_Index_int_l0, if_neg (lt_neg _)])
    (fun s i hi hs => by
      by_cases hc : v = l[i]
      · refine .inr ⟨some i, ⟨i, rfl, hc ▸ List.getElem_mem hi⟩, fun m => ?_⟩
        rw [slices_Index_int_l0, if_pos (lt_pos hi), at_some hi, Option.bind_some, if_pos (by simpa using hc)]
      · refine .inl ⟨(), ?_, fun m => ?_⟩
        · rw [take_succ_get hi, List.mem_append, List.mem_singleton]
          exact fun h => h.elim hs hc
        · rw [slices_Index_int_l0, if_pos (lt_pos hi), at_some hi, Option.bind_some, if_neg (by simpa using hc), wi_next hi (by omega)]) with ⟨s, hf, h⟩ | ⟨r, ⟨i, rfl, hf⟩, h⟩
  · rw [take_all] at hf
    exact ⟨false, by rw [h]; rfl, fun h => (by cases h), fun h => absurd h hf⟩
  · exact ⟨true, by rw [h]; simp, fun _ => hf, fun _ => rfl⟩
def KidsShort (d : TDoc) : Prop := ∀ x, x ∈ d.Nodes → x.Kids.length ≤ 140737488355328
theorem kid_iff {d : TDoc} (hd : DocOK d) (hf : Full d) {k j : Nat} (hk : k < d.Nodes.length) (hj : j < d.Nodes.length) : (j : Int) ∈ d.Nodes[k].Kids ↔ d.Nodes[j].Parent = (k : Int) := by
  constructor
  · intro h
    obtain ⟨j', e, hj', hp⟩ := hd.kids k hk hk _ h
    obtain rfl : j = j' := by omega
    exact hp
  · intro h
    rcases hf.kid j hj with h1 | ⟨p, hp, hm⟩
    · omega
    · obtain ⟨j', e, hj', hpp⟩ := hd.kids p hp hp _ hm
      obtain rfl : j = j' := by omega
      have : p = k := by omega
      subst this
      exact hm
theorem seek (d : TDoc) (hd : DocOK d) (hf : Full d) (hs : KidsShort d) (K : List Int → Int → Option (List Int × Int)) (j : Nat) (hj : j < d.Nodes.length) (t : List Int) :
    lim (fun kk => clerestoryref4_WayTo_l3 d K kk ((j : Int) :: t) (-1) 0) = K ((j : Int) :: t) d.Nodes[j].Parent := by
  have h200 := hd.many
  have hpar := hd.par j hj
  obtain ⟨s, h1, h2⟩ := rounds_all (fun k (s : Int) i => clerestoryref4_WayTo_l3 d K k ((j : Int) :: t) s i) (fun s => K ((j : Int) :: t) s) d.Nodes.length (fun i s => s = if d.Nodes[j].Parent < (i : Int) then d.Nodes[j].Parent else -1) (-1)
    (by by_cases h : d.Nodes[j].Parent < ((0 : Nat) : Int)
        · rw [if_pos h]; omega
        · rw [if_neg h])
    (fun m s hs => by rw [clerestoryref4_WayTo_l3, if_neg (lt_neg _)])
    (fun s i hi hss => by
      obtain ⟨b, b1, b2⟩ := contains_eq d.Nodes[i].Kids (j : Int) (hs _ (List.getElem_mem hi))
      rw [kid_iff hd hf hi hj] at b2
      have go : ∀ m, clerestoryref4_WayTo_l3 d K (m + 1) ((j : Int) :: t) s (i : Int) = clerestoryref4_WayTo_l3 d K m ((j : Int) :: t) (if b then (i : Int) else s) ((i + 1 : Nat) : Int) := fun m => by
        rw [clerestoryref4_WayTo_l3, if_pos (lt_pos hi), at_some hi, Option.bind_some, show at? ((j : Int) :: t) 0 = some (j : Int) from rfl, Option.bind_some, b1, Option.bind_some]
        unfold clerestoryref4_WayTo_j9
        rw [wi_next hi (by omega)]
        cases b <;> rfl
      refine ⟨_, ?_, go⟩
      cases b with
      | true =>
        have := b2.1 rfl
        rw [if_pos rfl, if_pos (by omega)]; omega
      | false =>
        have hne : ¬ d.Nodes[j].Parent = (i : Int) := fun h => by have := b2.2 h; cases this
        rw [if_neg (by simp), hss]
        by_cases hc : d.Nodes[j].Parent < (i : Int)
        · rw [if_pos hc, if_pos (by omega)]
        · rw [if_neg hc, if_neg (by omega)])
  have hp2 : d.Nodes[j].Parent < (d.Nodes.length : Int) := by omega
  rw [if_pos hp2] at h1
  rw [h1] at h2
  exact h2
theorem way_loop (d : TDoc) (hd : DocOK d) (hf : Full d) (hs : KidsShort d) (K : List Int → Option (List Int × Int)) : ∀ (h i : Nat) (t : List Int), Hgt d h i → t.length + h ≤ 1000 →
    ∀ m, clerestoryref4_WayTo_l2 d K (m + h + 1) ((i : Int) :: t) = if ((chn d h i).getLast?).getD 0 = 0 then K ((chn d h i).reverse ++ t) else some ([], 5)
  | 0, i, t, hh, hl, m => by
    obtain ⟨hi, hp⟩ := hh
    rw [clerestoryref4_WayTo_l2, show at? ((i : Int) :: t) 0 = some (i : Int) from rfl, Option.bind_some]
    by_cases h0 : (i : Int) = 0
    · rw [if_neg (by simpa using h0), if_pos (by simpa [chn] using h0)]
      rfl
    · rw [if_pos (by simpa using h0), if_neg (by simpa [chn] using h0), seek d hd hf hs _ i hi t, if_pos (by simpa using hp)]
  | h + 1, i, t, hh, hl, m => by
    have hgt := hh
    obtain ⟨hi, j, ej, hj⟩ := hh
    have ec : chn d (h + 1) i = (i : Int) :: chn d h j := by
      rw [chn, List.getElem?_eq_getElem hi]
      simp only [ej, Int.toNat_natCast]
    have h0 : ¬ (i : Int) = 0 := fun h0 => by
      obtain ⟨hr, hpr⟩ := hd.root
      obtain rfl : i = 0 := by omega
      omega
    have hne : chn d h j ≠ [] := fun e => by have := chn_len d h j; rw [e] at this; simp at this
    rw [clerestoryref4_WayTo_l2, show at? ((i : Int) :: t) 0 = some (i : Int) from rfl, Option.bind_some, if_pos (by simpa using h0), seek d hd hf hs _ i hi t, ej, if_neg (by simp), appq (by simp; omega), Option.bind_some, show [(j : Int)] ++ (i : Int) :: t = (j : Int) :: ((i : Int) :: t) from rfl,
      show m + (h + 1) = m + h + 1 by omega, way_loop d hd hf hs K h j _ hj (by simp; omega), ec, List.getLast?_cons_of_ne_nil hne, List.reverse_cons, List.append_assoc]
    rfl
/-- the way to a node, and an error -/
noncomputable def wayS (d : TDoc) (h i : Nat) : List Int × Int := if ((chn d h i).getLast?).getD 0 = 0 then ((chn d h i).reverse, 0) else ([], 5)
theorem path_way (d : TDoc) (hs : KidsShort d) (n : Int) : ∃ r : List Int × Int, event_Path d n = some r ∧ clerestoryref4_WayTo d n = some r ∧ r.1.length ≤ 202 ∧ (r.2 = 0 → r.1 ≠ []) := by
  obtain ⟨e, e1, e2⟩ := check_tot d hs
  unfold event_Path clerestoryref4_WayTo
  rw [e1, Option.bind_some, Option.bind_some]
  by_cases h0 : e = 0
  · have hd := e2 h0
    subst h0
    have hf := full_of hs hd e1
    have h200 := hd.many
    have hpos := hd.pos
    have hz0 : ¬ (!decide ((0 : Int) = 0)) = true := by simp
    rw [if_neg hz0, if_neg hz0, wi_id (by omega) (by omega)]
    by_cases hn : 0 ≤ n ∧ n < (d.Nodes.length : Int)
    · obtain ⟨i, rfl⟩ : ∃ i : Nat, n = i := ⟨n.toNat, by omega⟩
      have hi : i < d.Nodes.length := by omega
      obtain ⟨h, hle, hh⟩ := hgt_le hd i hi
      have hlen := chn_len d h i
      have hrl : (chn d h i).reverse.length = h + 1 := by rw [List.length_reverse, hlen]
      rw [if_neg (by simp; omega), if_neg (by unfold clerestoryref4_Between; simp; omega)]
      have E1 : lim (fun kk => event_Path_l0 d (fun (out1 : (List Int)) =>
          (slices_Reverse_int out1).bind fun r_2 =>
          guardLen out1 r_2 <|
          (at? r_2 0).bind fun x_1 =>
          if (!decide (x_1 = 0)) then
            some (([] : List Int), 5)
          else
            some (r_2, 0)) kk (i : Int) ([] : List Int)) = some (wayS d h i) := by
        refine lim_add (h + 2) fun m => ?_
        rw [← Nat.add_assoc, path_loop d _ h i [] hh (by simp; omega), List.nil_append]
        show (slices_Reverse_int (chn d h i)).bind _ = _
        rw [rev_eq _ (by omega), Option.bind_some]
        unfold guardLen
        rw [if_pos (by simp)]
        have hat : at? (chn d h i).reverse 0 = some (((chn d h i).getLast?).getD 0) := by
          rw [at_of (Int.le_refl 0)]
          show (chn d h i).reverse[0]? = _
          rw [← List.head?_eq_getElem?, List.head?_reverse]
          cases hg : (chn d h i).getLast? with
          | none => rw [List.getLast?_eq_none_iff] at hg; rw [hg] at hlen; simp at hlen
          | some v => rfl
        rw [hat, Option.bind_some]
        unfold wayS
        by_cases hz : ((chn d h i).getLast?).getD 0 = 0
        · rw [if_neg (by simpa using hz), if_pos hz]
        · rw [if_pos (by simpa using hz), if_neg hz]
      have E2 : lim (fun kk1 => clerestoryref4_WayTo_l2 d (fun (out1 : (List Int)) =>
          some (out1, 0)) kk1 [(i : Int)]) = some (wayS d h i) := by
        refine lim_add (h + 1) fun m => ?_
        rw [← Nat.add_assoc, way_loop d hd hf hs _ h i [] hh (by simp; omega)]
        unfold wayS
        split
        · rw [List.append_nil]
        · rfl
      refine ⟨wayS d h i, E1, E2, ?_, ?_⟩
      · unfold wayS
        split
        · show (chn d h i).reverse.length ≤ _
          omega
        · exact Nat.zero_le _
      · unfold wayS
        split
        · intro _ e
          have e : (chn d h i).reverse = [] := e
          rw [e] at hrl
          simp at hrl
        · intro h; cases h
    · rw [if_pos (by simp only [Bool.or_eq_true, decide_eq_true_eq]; omega), if_pos (by unfold clerestoryref4_Between; simp only [Bool.not_eq_true', Bool.and_eq_false_iff, decide_eq_false_iff_not]; omega)]
      exact ⟨_, rfl, rfl, by simp, fun h => by cases h⟩
  · rw [if_pos (by simpa using h0), if_pos (by simpa using h0)]
    exact ⟨_, rfl, rfl, by simp, fun h => absurd h h0⟩
end Go.Proofs.YtoomjemboekooaaDoorBv
