/- The program's check of a document: it answers whatever the document is, and what is known of one that is right. No program is in sight. -/
import Derived.Test.YtoomjemboekooaaDoorShEventSays
import Derived.Test.YtoomjemboekooaaDoorBv23
import Derived.Test.YtoomjemboekooaaDoorBv35
namespace Go.Proofs.YtoomjemboekooaaDoorBv
open Go
set_option linter.unusedSimpArgs false
set_option linter.unusedVariables false
theorem named_tot (s first : List UInt8) : ∃ b, dom_named s first = some b := by
  unfold dom_named dom_named_j1
  by_cases h : ((!decide (s = [])) && (decide ((s.length : Int) ≤ 40))) = true
  · rw [if_pos h]
    simp only [Bool.and_eq_true, Bool.not_eq_true', decide_eq_false_iff_not, decide_eq_true_eq] at h
    match s, h with
    | c :: r, h =>
      rw [show at? (c :: r) 0 = some c from rfl, Option.bind_some]
      show ∃ b, (indexByte? first (c.toNat : Int)).bind _ = some b
      unfold indexByte?
      rw [Option.bind_some]
      split
      · show ∃ b, (trim? (c :: r) _).bind _ = some b
        unfold trim?
        rw [if_pos ⟨by omega, by decide, by decide⟩, Option.bind_some]
        exact ⟨_, rfl⟩
      · exact ⟨_, rfl⟩
    | [], h => exact absurd rfl h.1
  · rw [if_neg h]; exact ⟨_, rfl⟩
theorem Name_tot (s : List UInt8) : ∃ b, dom_Name s = some b := by
  obtain ⟨b, hb⟩ := named_tot s (([97, 98, 99, 100, 101, 102, 103, 104, 105, 106, 107, 108, 109, 110, 111, 112, 113, 114, 115, 116, 117, 118, 119, 120, 121, 122] : List UInt8))
  refine ⟨b, ?_⟩
  unfold dom_Name
  rw [show sub? ([97, 98, 99, 100, 101, 102, 103, 104, 105, 106, 107, 108, 109, 110, 111, 112, 113, 114, 115, 116, 117, 118, 119, 120, 121, 122, 48, 49, 50, 51, 52, 53, 54, 55, 56, 57, 45, 95, 58] : List UInt8) 0 26 = some [97, 98, 99, 100, 101, 102, 103, 104, 105, 106, 107, 108, 109, 110, 111, 112, 113, 114, 115, 116, 117, 118, 119, 120, 121, 122] from rfl, Option.bind_some, hb]
  rfl
theorem attrName_tot (s : List UInt8) : ∃ b, dom_attrName s = some b := by
  obtain ⟨b, hb⟩ := named_tot s (([97, 98, 99, 100, 101, 102, 103, 104, 105, 106, 107, 108, 109, 110, 111, 112, 113, 114, 115, 116, 117, 118, 119, 120, 121, 122, 45, 95] : List UInt8))
  refine ⟨b, ?_⟩
  unfold dom_attrName
  rw [show sub? ([97, 98, 99, 100, 101, 102, 103, 104, 105, 106, 107, 108, 109, 110, 111, 112, 113, 114, 115, 116, 117, 118, 119, 120, 121, 122, 48, 49, 50, 51, 52, 53, 54, 55, 56, 57, 45, 95, 58] : List UInt8) 0 26 = some [97, 98, 99, 100, 101, 102, 103, 104, 105, 106, 107, 108, 109, 110, 111, 112, 113, 114, 115, 116, 117, 118, 119, 120, 121, 122] from rfl, Option.bind_some,
    show cat? ([97, 98, 99, 100, 101, 102, 103, 104, 105, 106, 107, 108, 109, 110, 111, 112, 113, 114, 115, 116, 117, 118, 119, 120, 121, 122] : List UInt8) [45, 95] = some [97, 98, 99, 100, 101, 102, 103, 104, 105, 106, 107, 108, 109, 110, 111, 112, 113, 114, 115, 116, 117, 118, 119, 120, 121, 122, 45, 95] from rfl, Option.bind_some, hb]
  rfl
theorem find_loop (l : List TAttr) (x : List UInt8) (hl : l.length ≤ 140737488355328) : ∀ (d i : Nat), i + d = l.length → ∃ r, ∀ m, slices_IndexFunc_Attr_l0 l x (fun _ => some (-1)) (m + d + 1) (i : Int) = some r
  | 0, i, hi => by
    refine ⟨-1, fun m => ?_⟩
    rw [slices_IndexFunc_Attr_l0, if_neg (by simp only [decide_eq_true_eq]; omega)]
  | d + 1, i, hi => by
    have h : i < l.length := by omega
    obtain ⟨r, hr⟩ := find_loop l x hl d (i + 1) (by omega)
    by_cases hc : dom_find_fn1 l[i] x = true
    · refine ⟨i, fun m => ?_⟩
      rw [slices_IndexFunc_Attr_l0, if_pos (by simp only [decide_eq_true_eq]; omega), at_some h, Option.bind_some, if_pos hc]
    · refine ⟨r, fun m => ?_⟩
      rw [slices_IndexFunc_Attr_l0, if_pos (by simp only [decide_eq_true_eq]; omega), at_some h, Option.bind_some, if_neg hc, wi_id (by omega) (by omega), show (i : Int) + 1 = ((i + 1 : Nat) : Int) by omega]
      exact hr m
theorem find_tot (l : List TAttr) (x : List UInt8) (hl : l.length ≤ 140737488355328) : ∃ r, dom_find l x = some r := by
  obtain ⟨r, hr⟩ := find_loop l x hl l.length 0 (by omega)
  refine ⟨r, ?_⟩
  unfold dom_find slices_IndexFunc_Attr
  rw [show (lim fun kk => slices_IndexFunc_Attr_l0 l x (fun _ => some (-1)) kk 0) = some r from lim_add (l.length + 1) fun m => hr m]
  rfl
theorem attrs_loop (l : List TAttr) (hl : l.length ≤ 12) : ∀ (d i : Nat), i + d = l.length → ∃ r, ∀ m, dom_attrs_l0 l (fun _ => some 0) (m + d + 1) (i : Int) = some r
  | 0, i, hi => by
    refine ⟨0, fun m => ?_⟩
    rw [dom_attrs_l0, if_neg (by simp only [decide_eq_true_eq]; omega)]
  | d + 1, i, hi => by
    have h : i < l.length := by omega
    obtain ⟨r, hr⟩ := attrs_loop l hl d (i + 1) (by omega)
    obtain ⟨b, hb⟩ := attrName_tot l[i].Name
    obtain ⟨q, hq⟩ := find_tot (l.take i) l[i].Name (by rw [List.length_take]; omega)
    have go : ∀ m, dom_attrs_l0 l (fun _ => some 0) (m + (d + 1) + 1) (i : Int) = if (!b) then some 3 else if decide (400 < (l[i].Value.length : Int)) then some 2 else if decide (0 ≤ q) then some 3 else some r := by
      intro m
      rw [dom_attrs_l0, if_pos (by simp only [decide_eq_true_eq]; omega), at_some h, Option.bind_some, hb, Option.bind_some, sub_take (by omega), Option.bind_some, hq, Option.bind_some, wi_id (by omega) (by omega), show (i : Int) + 1 = ((i + 1 : Nat) : Int) by omega,
        show m + (d + 1) = m + d + 1 by omega, hr m]
    by_cases c1 : (!b) = true
    · exact ⟨3, fun m => by rw [go, if_pos c1]⟩
    by_cases c2 : decide (400 < (l[i].Value.length : Int)) = true
    · exact ⟨2, fun m => by rw [go, if_neg c1, if_pos c2]⟩
    by_cases c3 : decide (0 ≤ q) = true
    · exact ⟨3, fun m => by rw [go, if_neg c1, if_neg c2, if_pos c3]⟩
    exact ⟨r, fun m => by rw [go, if_neg c1, if_neg c2, if_neg c3]⟩
theorem attrs_tot (l : List TAttr) : ∃ r, dom_attrs l = some r := by
  unfold dom_attrs
  by_cases h : decide (12 < (l.length : Int)) = true
  · rw [if_pos h]; exact ⟨_, rfl⟩
  · rw [if_neg h]
    have hl : l.length ≤ 12 := by simp only [decide_eq_true_eq] at h; omega
    obtain ⟨r, hr⟩ := attrs_loop l hl l.length 0 (by omega)
    exact ⟨r, lim_add (l.length + 1) fun m => hr m⟩
theorem one_tot (x : TNode) : ∃ r, dom_one x = some r := by
  obtain ⟨b, hb⟩ := Name_tot x.Name
  obtain ⟨q, hq⟩ := attrs_tot x.Attrs
  have j : ∀ v, ∃ r, dom_one_j1 x v = some r := by
    intro v
    unfold dom_one_j1
    rw [hq, Option.bind_some]
    repeat' split
    all_goals exact ⟨_, rfl⟩
  unfold dom_one
  rw [hb, Option.bind_some]
  split
  · exact ⟨_, rfl⟩
  · split
    · exact j _
    · exact j _
/-! ### kids and parents -/
def ParOK (d : TDoc) : Prop := ∀ (i : Nat) (h : i < d.Nodes.length), d.Nodes[i].Parent = -1 ∨ (0 ≤ d.Nodes[i].Parent ∧ d.Nodes[i].Parent < d.Nodes.length)
def KidOK (d : TDoc) (i : Nat) (k : Int) : Prop := ∃ j : Nat, k = j ∧ ∃ h : j < d.Nodes.length, d.Nodes[j].Parent = i
def KidsTo (d : TDoc) (n : Nat) : Prop := ∀ (i : Nat) (h : i < d.Nodes.length), i < n → ∀ k, k ∈ d.Nodes[i].Kids → KidOK d i k
def Root (d : TDoc) : Prop := ∃ h : 0 < d.Nodes.length, d.Nodes[0].Parent = -1
def KGoal (d : TDoc) (e : Int) : Prop := e = 0 → ParOK d ∧ KidsTo d d.Nodes.length ∧ Root d
def SeenOK (d : TDoc) (seen : List Bool) : Prop := seen.length = d.Nodes.length ∧ ∀ (k : Nat) (h : k < d.Nodes.length), seen[k]? = some true → 0 ≤ d.Nodes[k].Parent ∧ d.Nodes[k].Parent < d.Nodes.length
theorem kids_l3 (d : TDoc) (i : Nat) (hi : i < d.Nodes.length) (hn : d.Nodes.length ≤ 200) (hk : d.Nodes[i].Kids.length ≤ 140737488355328) (E : List Bool → Int) : ∀ (c j : Nat) (seen : List Bool), j + c = d.Nodes[i].Kids.length → SeenOK d seen → (∀ k, k ∈ d.Nodes[i].Kids.take j → KidOK d i k) →
    ∃ e, (((∀ k, k ∈ d.Nodes[i].Kids → KidOK d i k) → ∀ s, SeenOK d s → KGoal d (E s)) → KGoal d e) ∧ ∀ K, (∀ s, SeenOK d s → K s = some (E s)) → ∀ m, dom_kids_l3 d.Nodes[i] (i : Int) d K (m + c + 1) seen (j : Int) = some e
  | 0, j, seen, hj, hs, hp => by
    refine ⟨E seen, fun hE => hE (by rw [List.take_of_length_le (by omega)] at hp; exact hp) seen hs, fun K hK m => ?_⟩
    rw [dom_kids_l3, if_neg (by simp only [decide_eq_true_eq]; omega)]
    exact hK seen hs
  | c + 1, j, seen, hj, hs, hp => by
    have h : j < d.Nodes[i].Kids.length := by omega
    have bad3 : ∀ (self : List Bool → Int → Option Int) (K : List Bool → Option Int), dom_kids_j17 (i : Int) d d.Nodes[i].Kids[j] (j : Int) d.Nodes[i] self K seen true = some 3 := by
      intro self K; unfold dom_kids_j17; rw [if_pos rfl]
    have g3 : KGoal d 3 := fun h => by cases h
    have g7 : KGoal d 7 := fun h => by cases h
    by_cases c1 : ((decide (d.Nodes[i].Kids[j] < 0)) || (decide ((seen.length : Int) ≤ d.Nodes[i].Kids[j]))) = true
    · refine ⟨3, fun _ => g3, fun K hK m => ?_⟩
      rw [dom_kids_l3, if_pos (by simp only [decide_eq_true_eq]; omega), at_some h, Option.bind_some, if_pos c1, bad3]
    · have hr : 0 ≤ d.Nodes[i].Kids[j] ∧ d.Nodes[i].Kids[j] < d.Nodes.length := by
        simp only [Bool.or_eq_true, decide_eq_true_eq] at c1
        have := hs.1
        omega
      obtain ⟨k, ek⟩ : ∃ k : Nat, d.Nodes[i].Kids[j] = k := ⟨d.Nodes[i].Kids[j].toNat, by omega⟩
      have hk1 : k < d.Nodes.length := by omega
      have hk2 : k < seen.length := by rw [hs.1]; exact hk1
      rw [ek] at c1 bad3
      by_cases c2 : d.Nodes[k].Parent = (i : Int)
      · by_cases c3 : seen[k] = true
        · refine ⟨3, fun _ => g3, fun K hK m => ?_⟩
          rw [dom_kids_l3, if_pos (by simp only [decide_eq_true_eq]; omega), at_some h, Option.bind_some, ek, if_neg c1, at_some hk1, Option.bind_some, if_neg (by simpa using c2), at_some hk2, Option.bind_some, c3, bad3]
        · have c3' : seen[k] = false := by simpa using c3
          have hs' : SeenOK d (seen.set k true) := by
            refine ⟨by rw [List.length_set]; exact hs.1, fun q hq hqs => ?_⟩
            by_cases e : q = k
            · subst e; rw [c2]; omega
            · rw [List.getElem?_set_ne (Ne.symm e)] at hqs
              exact hs.2 q hq hqs
          have hp' : ∀ q, q ∈ d.Nodes[i].Kids.take (j + 1) → KidOK d i q := by
            intro q hq
            rw [List.take_add_one, List.getElem?_eq_getElem h] at hq
            rcases List.mem_append.1 hq with hq | hq
            · exact hp q hq
            · have : q = d.Nodes[i].Kids[j] := by simpa using hq
              exact ⟨k, by rw [this, ek], hk1, c2⟩
          obtain ⟨e, he1, he2⟩ := kids_l3 d i hi hn hk E c (j + 1) (seen.set k true) (by omega) hs' hp'
          have j18 : ∀ (K : List Bool → Option Int) (m : Nat) (v : Bool), (∀ s, SeenOK d s → K s = some (E s)) → dom_kids_j18 (k : Int) (j : Int) (i : Int) d d.Nodes[i] (dom_kids_l3 d.Nodes[i] (i : Int) d K (m + c + 1)) K seen v = some (if v then 7 else e) := by
            intro K m v hK
            unfold dom_kids_j18
            cases v with
            | true => rfl
            | false =>
              rw [if_neg (by simp), at_some hk2, Option.bind_some, wi_id (by omega) (by omega), show (j : Int) + 1 = ((j + 1 : Nat) : Int) by omega, Int.toNat_natCast]
              exact he2 K hK m
          have head : ∀ (K : List Bool → Option Int) (m : Nat), dom_kids_l3 d.Nodes[i] (i : Int) d K (m + (c + 1) + 1) seen (j : Int) = dom_kids_j17 (i : Int) d (k : Int) (j : Int) d.Nodes[i] (dom_kids_l3 d.Nodes[i] (i : Int) d K (m + c + 1)) K seen false := by
            intro K m
            rw [dom_kids_l3, if_pos (by simp only [decide_eq_true_eq]; omega), at_some h, Option.bind_some, ek, if_neg c1, at_some hk1, Option.bind_some, if_neg (by simpa using c2), at_some hk2, Option.bind_some, c3']
            rfl
          by_cases c4 : (decide ((i : Int) = 0) && decide (d.Nodes[k].Kind = 3)) = true
          · refine ⟨7, fun _ => g7, fun K hK m => ?_⟩
            simp only [Bool.and_eq_true, decide_eq_true_eq] at c4
            rw [head]
            unfold dom_kids_j17
            rw [if_neg (by simp), if_pos (by simpa using c4.1), at_some hk1, Option.bind_some, j18 K m _ hK, show decide (d.Nodes[k].Kind = 3) = true by simpa using c4.2]
            rfl
          · refine ⟨e, he1, fun K hK m => ?_⟩
            rw [head]
            unfold dom_kids_j17
            rw [if_neg (by simp)]
            by_cases c5 : decide ((i : Int) = 0) = true
            · rw [c5, Bool.true_and] at c4
              rw [if_pos c5, at_some hk1, Option.bind_some, j18 K m _ hK, if_neg c4]
            · rw [if_neg c5, j18 K m _ hK]
              rfl
      · refine ⟨3, fun _ => g3, fun K hK m => ?_⟩
        rw [dom_kids_l3, if_pos (by simp only [decide_eq_true_eq]; omega), at_some h, Option.bind_some, ek, if_neg c1, at_some hk1, Option.bind_some, if_pos (by simpa using c2), bad3]
theorem kids_l2 (d : TDoc) (hn : d.Nodes.length ≤ 200) (hk : ∀ x, x ∈ d.Nodes → x.Kids.length ≤ 140737488355328) (K0 : List Bool → Option Int) (E0 : List Bool → Int) (hK0 : ∀ s, SeenOK d s → K0 s = some (E0 s))
    (hE0 : KidsTo d d.Nodes.length → ∀ s, SeenOK d s → KGoal d (E0 s)) : ∀ (c i : Nat), i + c = d.Nodes.length → ∃ E : List Bool → Int, ∀ s, SeenOK d s → (KidsTo d i → KGoal d (E s)) ∧ ∀ m, dom_kids_l2 d K0 (m + c + 1) s (i : Int) = some (E s)
  | 0, i, hi => by
    obtain rfl : i = d.Nodes.length := by omega
    refine ⟨E0, fun s hs => ⟨fun hto => hE0 hto s hs, fun m => ?_⟩⟩
    rw [dom_kids_l2, if_neg (by simp)]
    exact hK0 s hs
  | c + 1, i, hi => by
    have h : i < d.Nodes.length := by omega
    obtain ⟨E1, h1⟩ := kids_l2 d hn hk K0 E0 hK0 hE0 c (i + 1) (by omega)
    have step : ∀ s, SeenOK d s → ∃ e, (KidsTo d i → KGoal d e) ∧ ∀ m, dom_kids_l2 d K0 (m + (c + 1) + 1) s (i : Int) = some e := by
      intro s hs
      obtain ⟨e, he1, he2⟩ := kids_l3 d i h hn (hk _ (List.getElem_mem h)) E1 d.Nodes[i].Kids.length 0 s (by omega) hs (by simp)
      refine ⟨e, fun hto => he1 fun hall s hs => (h1 s hs).1 ?_, fun m => ?_⟩
      · intro q hq hlt k hkq
        by_cases e : q = i
        · subst e; exact hall k hkq
        · exact hto q hq (by omega) k hkq
      · rw [dom_kids_l2, if_pos (by simp only [decide_eq_true_eq]; omega), at_some h, Option.bind_some]
        refine lim_add (d.Nodes[i].Kids.length + 1) fun q => ?_
        refine he2 _ (fun s' hs' => ?_) q
        rw [wi_id (by omega) (by omega), show (i : Int) + 1 = ((i + 1 : Nat) : Int) by omega]
        exact (h1 s' hs').2 m
    exact ⟨fun s => open Classical in if hs : SeenOK d s then (step s hs).choose else 0, fun s hs => by
      simp only [dif_pos hs]
      exact (step s hs).choose_spec⟩
theorem kids_l4 (d : TDoc) (hn : d.Nodes.length ≤ 200) (seen : List Bool) (hs : SeenOK d seen) (E5 : Int) (K5 : Unit → Option Int) (hK5 : K5 () = some E5) : ∀ (c i : Nat), i + c = d.Nodes.length →
    ∃ e, (e = 0 → E5 = 0 ∧ ∀ (q : Nat) (h : q < d.Nodes.length), i ≤ q → d.Nodes[q].Parent = -1 ∨ seen[q]? = some true) ∧ ∀ m, dom_kids_l4 d K5 (m + c + 1) seen (i : Int) = some e
  | 0, i, hi => by
    refine ⟨E5, fun h => ⟨h, fun q hq hle => by omega⟩, fun m => ?_⟩
    rw [dom_kids_l4, if_neg (by simp only [decide_eq_true_eq]; omega)]
    exact hK5
  | c + 1, i, hi => by
    have h : i < d.Nodes.length := by omega
    have h2 : i < seen.length := by rw [hs.1]; exact h
    obtain ⟨e, he1, he2⟩ := kids_l4 d hn seen hs E5 K5 hK5 c (i + 1) (by omega)
    have cont : ∀ m, dom_kids_j21 (i : Int) d (dom_kids_l4 d K5 (m + c + 1)) K5 seen false = some e := by
      intro m
      unfold dom_kids_j21
      rw [if_neg (by simp), wi_id (by omega) (by omega), show (i : Int) + 1 = ((i + 1 : Nat) : Int) by omega]
      exact he2 m
    have head : ∀ m, dom_kids_l4 d K5 (m + (c + 1) + 1) seen (i : Int) = if (!decide (d.Nodes[i].Parent = (-1))) then dom_kids_j21 (i : Int) d (dom_kids_l4 d K5 (m + c + 1)) K5 seen (!seen[i]) else dom_kids_j21 (i : Int) d (dom_kids_l4 d K5 (m + c + 1)) K5 seen false := by
      intro m
      rw [dom_kids_l4, if_pos (by simp only [decide_eq_true_eq]; omega), at_some h, Option.bind_some, at_some h2, Option.bind_some]
      rfl
    by_cases c1 : d.Nodes[i].Parent = -1
    · refine ⟨e, fun h0 => ⟨(he1 h0).1, fun q hq hle => ?_⟩, fun m => by rw [head, if_neg (by simp [c1]), cont]⟩
      by_cases eq : q = i
      · subst eq; exact .inl c1
      · exact (he1 h0).2 q hq (by omega)
    · cases hsi : seen[i] with
      | true =>
        refine ⟨e, fun h0 => ⟨(he1 h0).1, fun q hq hle => ?_⟩, fun m => by rw [head, if_pos (by simp [c1]), hsi]; exact cont m⟩
        by_cases eq : q = i
        · subst eq; exact .inr (by rw [List.getElem?_eq_getElem h2, hsi])
        · exact (he1 h0).2 q hq (by omega)
      | false =>
        refine ⟨3, (fun h0 => by cases h0), fun m => ?_⟩
        rw [head, if_pos (by simp [c1]), hsi]
        rfl
theorem kids_tot (d : TDoc) (hn : d.Nodes.length ≤ 200) (h0 : 0 < d.Nodes.length) (hk : ∀ x, x ∈ d.Nodes → x.Kids.length ≤ 140737488355328) : ∃ e, dom_kids d = some e ∧ KGoal d e := by
  have hroot : ∃ E5, (if (!decide (d.Nodes[0].Parent = (-1))) then some 3 else some (0 : Int)) = some E5 ∧ (E5 = 0 → Root d) := by
    by_cases c : d.Nodes[0].Parent = -1
    · exact ⟨0, by rw [if_neg (by simp [c])], fun _ => ⟨h0, c⟩⟩
    · exact ⟨3, by rw [if_pos (by simp [c])], fun h => by cases h⟩
  obtain ⟨E5, e51, e52⟩ := hroot
  have a0 : at? d.Nodes 0 = some d.Nodes[0] := by
    have := at_some h0
    simpa using this
  have k4 : ∀ s, SeenOK d s → ∃ e, (KidsTo d d.Nodes.length → KGoal d e) ∧ (lim fun kk1 => dom_kids_l4 d (fun (_ : Unit) => (at? d.Nodes 0).bind fun x_8 => if (!decide (x_8.Parent = (-1))) then some 3 else some 0) kk1 s 0) = some e := by
    intro s hs
    obtain ⟨e, he1, he2⟩ := kids_l4 d hn s hs E5 (fun (_ : Unit) => (at? d.Nodes 0).bind fun x_8 => if (!decide (x_8.Parent = (-1))) then some 3 else some 0) (by rw [a0, Option.bind_some]; exact e51) d.Nodes.length 0 (by omega)
    refine ⟨e, fun hto hz => ⟨fun i hi => ?_, hto, e52 (he1 hz).1⟩, lim_add (d.Nodes.length + 1) fun m => he2 m⟩
    rcases (he1 hz).2 i hi (Nat.zero_le _) with h | h
    · exact .inl h
    · exact .inr (hs.2 i hi h)
  have hrow : SeenOK d (List.replicate d.Nodes.length false) := by
    refine ⟨by simp, fun k h hk => ?_⟩
    rw [List.getElem?_replicate, if_pos h] at hk
    cases hk
  obtain ⟨E, hE⟩ := kids_l2 d hn hk (fun (seen1 : (List Bool)) => lim fun kk1 => dom_kids_l4 d (fun (_ : Unit) => (at? d.Nodes 0).bind fun x_8 => if (!decide (x_8.Parent = (-1))) then some 3 else some 0) kk1 seen1 0)
    (fun s => open Classical in if hs : SeenOK d s then (k4 s hs).choose else 0) (fun s hs => by rw [dif_pos hs]; exact (k4 s hs).choose_spec.2) (fun hto s hs => by rw [dif_pos hs]; exact (k4 s hs).choose_spec.1 hto) d.Nodes.length 0 (by omega)
  obtain ⟨g1, g2⟩ := hE _ hrow
  refine ⟨E (List.replicate d.Nodes.length false), ?_, g1 fun i h hlt => by omega⟩
  unfold dom_kids
  rw [mkl_some (by omega) (Int.le_refl _) (by omega) (by omega), Option.bind_some, Int.toNat_natCast]
  exact lim_add (d.Nodes.length + 1) fun m => g2 m
/-! ### how deep a node lies -/
theorem up_loop (d : TDoc) (hn : d.Nodes.length ≤ 200) (hp : ParOK d) : ∀ (c i many : Nat), i < d.Nodes.length → many + c = d.Nodes.length + 1 → ∃ r, ∀ m, dom_up_l0 d (fun many1 => some many1) (m + c + 1) (i : Int) (many : Int) = some r
  | 0, i, many, hi, hc => by
    refine ⟨many, fun m => ?_⟩
    rw [dom_up_l0, at_some hi, Option.bind_some, if_neg (by simp only [Bool.and_eq_true, decide_eq_true_eq]; omega)]
  | c + 1, i, many, hi, hc => by
    by_cases hpar : 0 ≤ d.Nodes[i].Parent
    · have := hp i hi
      obtain ⟨j, ej⟩ : ∃ j : Nat, d.Nodes[i].Parent = j := ⟨d.Nodes[i].Parent.toNat, by omega⟩
      obtain ⟨r, hr⟩ := up_loop d hn hp c j (many + 1) (by omega) (by omega)
      refine ⟨r, fun m => ?_⟩
      rw [dom_up_l0, at_some hi, Option.bind_some, if_pos (by simp only [Bool.and_eq_true, decide_eq_true_eq]; omega), Option.bind_some, ej, wi_id (by omega) (by omega), show (many : Int) + 1 = ((many + 1 : Nat) : Int) by omega]
      exact hr m
    · refine ⟨many, fun m => ?_⟩
      rw [dom_up_l0, at_some hi, Option.bind_some, if_neg (by simp only [Bool.and_eq_true, decide_eq_true_eq]; omega)]
theorem up_tot (d : TDoc) (hn : d.Nodes.length ≤ 200) (hp : ParOK d) (i : Nat) (hi : i < d.Nodes.length) : ∃ r, dom_up d (i : Int) = some r := by
  obtain ⟨r, hr⟩ := up_loop d hn hp (d.Nodes.length + 1) i 0 hi (by omega)
  refine ⟨r, ?_⟩
  unfold dom_up
  exact lim_add (d.Nodes.length + 1 + 1) fun m => hr m
def Deep (d : TDoc) : Prop := ∀ (i : Nat), i < d.Nodes.length → ∃ r, dom_up d (i : Int) = some r ∧ r ≤ 40 ∧ r ≤ (d.Nodes.length : Int)
theorem check_l1 (d : TDoc) (hn : d.Nodes.length ≤ 200) (hp : ParOK d) : ∀ (c i : Nat), i + c = d.Nodes.length →
    ∃ e, (e = 0 → ∀ (q : Nat), q < d.Nodes.length → i ≤ q → ∃ r, dom_up d (q : Int) = some r ∧ r ≤ 40 ∧ r ≤ (d.Nodes.length : Int)) ∧ ∀ m, dom_Check_l1 d (fun _ => some 0) (m + c + 1) (i : Int) = some e
  | 0, i, hi => by
    refine ⟨0, fun _ q h1 h2 => by omega, fun m => ?_⟩
    rw [dom_Check_l1, if_neg (by simp only [decide_eq_true_eq]; omega)]
  | c + 1, i, hi => by
    have h : i < d.Nodes.length := by omega
    obtain ⟨r, hr⟩ := up_tot d hn hp i h
    obtain ⟨e, he1, he2⟩ := check_l1 d hn hp c (i + 1) (by omega)
    have head : ∀ m, dom_Check_l1 d (fun _ => some 0) (m + (c + 1) + 1) (i : Int) = if decide ((d.Nodes.length : Int) < r) then some 8 else if decide (40 < r) then some 2 else some e := by
      intro m
      rw [dom_Check_l1, if_pos (by simp only [decide_eq_true_eq]; omega), hr, Option.bind_some, wi_id (by omega) (by omega), show (i : Int) + 1 = ((i + 1 : Nat) : Int) by omega, show m + (c + 1) = m + c + 1 by omega, he2 m]
    by_cases c1 : decide ((d.Nodes.length : Int) < r) = true
    · exact ⟨8, (fun h => by cases h), fun m => by rw [head, if_pos c1]⟩
    by_cases c2 : decide (40 < r) = true
    · exact ⟨2, (fun h => by cases h), fun m => by rw [head, if_neg c1, if_pos c2]⟩
    refine ⟨e, fun h0 q h1 h2 => ?_, fun m => by rw [head, if_neg c1, if_neg c2]⟩
    by_cases eq : q = i
    · subst eq; exact ⟨r, hr, by simpa using c2, by simpa using c1⟩
    · exact he1 h0 q h1 (by omega)
theorem check_l0 (d : TDoc) (hn : d.Nodes.length ≤ 200) (E1 : Int) (K1 : Unit → Option Int) (hK : K1 () = some E1) : ∀ (c i : Nat), i + c = d.Nodes.length →
    ∃ e, (e = 0 → E1 = 0 ∧ ∀ (q : Nat) (h : q < d.Nodes.length), i ≤ q → dom_one d.Nodes[q] = some 0 ∧ (d.Nodes[q].Kind = 1 ↔ q = 0)) ∧ ∀ m, dom_Check_l0 d K1 (m + c + 1) (i : Int) = some e
  | 0, i, hi => by
    refine ⟨E1, fun h => ⟨h, fun q h1 h2 => by omega⟩, fun m => ?_⟩
    rw [dom_Check_l0, if_neg (by simp only [decide_eq_true_eq]; omega)]
    exact hK
  | c + 1, i, hi => by
    have h : i < d.Nodes.length := by omega
    obtain ⟨r, hr⟩ := one_tot d.Nodes[i]
    obtain ⟨e, he1, he2⟩ := check_l0 d hn E1 K1 hK c (i + 1) (by omega)
    have head : ∀ m, dom_Check_l0 d K1 (m + (c + 1) + 1) (i : Int) = if (!((decide (d.Nodes[i].Kind = 1) == decide ((i : Int) = 0)) && true)) then some 3 else if (!decide (r = 0)) then some r else some e := by
      intro m
      rw [dom_Check_l0, if_pos (by simp only [decide_eq_true_eq]; omega), at_some h, Option.bind_some, hr, Option.bind_some, wi_id (by omega) (by omega), show (i : Int) + 1 = ((i + 1 : Nat) : Int) by omega, show m + (c + 1) = m + c + 1 by omega, he2 m]
    by_cases c1 : (!((decide (d.Nodes[i].Kind = 1) == decide ((i : Int) = 0)) && true)) = true
    · exact ⟨3, (fun h => by cases h), fun m => by rw [head, if_pos c1]⟩
    by_cases c2 : (!decide (r = 0)) = true
    · exact ⟨r, fun h => by simp [h] at c2, fun m => by rw [head, if_neg c1, if_pos c2]⟩
    refine ⟨e, fun h0 => ⟨(he1 h0).1, fun q h1 h2 => ?_⟩, fun m => by rw [head, if_neg c1, if_neg c2]⟩
    by_cases eq : q = i
    · subst eq
      refine ⟨by simp at c2; rw [hr, c2], ?_⟩
      simp only [Bool.and_true, Bool.not_eq_true', Bool.not_eq_false, beq_iff_eq] at c1
      have c1' : decide (d.Nodes[q].Kind = 1) = decide ((q : Int) = 0) := by simpa using c1
      constructor
      · intro hk
        have : decide ((q : Int) = 0) = true := by rw [← c1']; simpa using hk
        simp at this
        omega
      · intro hq
        have : decide (d.Nodes[q].Kind = 1) = true := by rw [c1']; simp [hq]
        simpa using this
    · exact (he1 h0).2 q h1 (by omega)
/-- what a document is, that is right -/
structure DocOK (d : TDoc) : Prop where
  pos : 0 < d.Nodes.length
  many : d.Nodes.length ≤ 200
  par : ParOK d
  kids : KidsTo d d.Nodes.length
  root : Root d
  deep : Deep d
  one : ∀ (q : Nat) (h : q < d.Nodes.length), dom_one d.Nodes[q] = some 0 ∧ (d.Nodes[q].Kind = 1 ↔ q = 0)
theorem check_tot (d : TDoc) (hk : ∀ x, x ∈ d.Nodes → x.Kids.length ≤ 140737488355328) : ∃ e, dom_Check d = some e ∧ (e = 0 → DocOK d) := by
  unfold dom_Check
  by_cases c1 : decide (200 < (d.Nodes.length : Int)) = true
  · exact ⟨2, by rw [if_pos c1], fun h => by cases h⟩
  rw [if_neg c1]
  by_cases c2 : decide ((d.Nodes.length : Int) = 0) = true
  · exact ⟨3, by rw [if_pos c2], fun h => by cases h⟩
  rw [if_neg c2]
  have hn : d.Nodes.length ≤ 200 := by simp only [decide_eq_true_eq] at c1; omega
  have h0 : 0 < d.Nodes.length := by simp only [decide_eq_true_eq] at c2; omega
  obtain ⟨r, r1, r2⟩ := kids_tot d hn h0 hk
  have hE : ∃ E1, ((dom_kids d).bind fun r_1 => if (!decide (r_1 = 0)) then some r_1 else lim fun kk => dom_Check_l1 d (fun (_ : Unit) => some 0) kk 0) = some E1 ∧ (E1 = 0 → r = 0 ∧ Deep d) := by
    rw [r1, Option.bind_some]
    by_cases c3 : r = 0
    · rw [if_neg (by simp [c3])]
      obtain ⟨e, he1, he2⟩ := check_l1 d hn (r2 c3).1 d.Nodes.length 0 (by omega)
      exact ⟨e, lim_add (d.Nodes.length + 1) fun m => he2 m, fun hz => ⟨c3, fun q hq => he1 hz q hq (Nat.zero_le _)⟩⟩
    · rw [if_pos (by simp [c3])]
      exact ⟨r, rfl, fun hz => absurd hz c3⟩
  obtain ⟨E1, e1, e2⟩ := hE
  obtain ⟨e, he1, he2⟩ := check_l0 d hn E1 (fun (_ : Unit) => (dom_kids d).bind fun r_1 => if (!decide (r_1 = 0)) then some r_1 else lim fun kk => dom_Check_l1 d (fun (_ : Unit) => some 0) kk 0) e1 d.Nodes.length 0 (by omega)
  refine ⟨e, lim_add (d.Nodes.length + 1) fun m => he2 m, fun hz => ?_⟩
  obtain ⟨g1, g2⟩ := e2 (he1 hz).1
  obtain ⟨p1, p2, p3⟩ := r2 g1
  exact ⟨h0, hn, p1, p2, p3, g2, fun q h => (he1 hz).2 q h (Nat.zero_le _)⟩
end Go.Proofs.YtoomjemboekooaaDoorBv
