/- The law CountNumbers, over plain values, in parts. No program is in sight. -/
import Derived.Test.YtaejmblphhjccaaGreatDoorShCountNumbers
import Derived.Test.YtaejmblphhjccaaGreatDoorBv23
import Derived.Test.YtaejmblphhjccaaGreatDoorBv35
import Derived.Lib.ItoaLen
import Derived.Test.YtaejmblphhjccaaGreatDoorBv29
/- The program's check of a document: it answers whatever the document is, and what is known of one that is right. No program is in sight. -/
namespace Go.Proofs.YtaejmblphhjccaaGreatDoorBv
open Go
set_option linter.unusedSimpArgs false
set_option linter.unusedVariables false
theorem named_tot (s first : List UInt8) : ∃ b, Z1t s first = some b := by
 unfold Z1t Z1s
 by_cases h : ((!decide (s = [])) && (decide ((s.length : Int) ≤ 40))) = true
 ·rw [if_pos h]
  simp only [Bool.and_eq_true, Bool.not_eq_true', decide_eq_false_iff_not, decide_eq_true_eq] at h
  match s, h with
  | c :: r, h =>
   rw [show at? (c :: r) 0 = some c from rfl, Option.bind_some]
   show ∃ b, (indexByte? first (c.toNat : Int)).bind _ = some b
   unfold indexByte?
   rw [Option.bind_some]
   split
   ·show ∃ b, (trim? (c :: r) _).bind _ = some b
    unfold trim?
    rw [if_pos ⟨by omega, by decide, by decide⟩, Option.bind_some]
    exact ⟨_, rfl⟩
   ·exact ⟨_, rfl⟩
  | [], h => exact absurd rfl h.1
 ·rw [if_neg h]; exact ⟨_, rfl⟩
theorem Name_tot (s : List UInt8) : ∃ b, Z2d s = some b := by
 obtain ⟨b, hb⟩ := named_tot s (([97, 98, 99, 100, 101, 102, 103, 104, 105, 106, 107, 108, 109, 110, 111, 112, 113, 114, 115, 116, 117, 118, 119, 120, 121, 122] : List UInt8))
 refine ⟨b, ?_⟩
 unfold Z2d
 rw [show sub? ([97, 98, 99, 100, 101, 102, 103, 104, 105, 106, 107, 108, 109, 110, 111, 112, 113, 114, 115, 116, 117, 118, 119, 120, 121, 122, 48, 49, 50, 51, 52, 53, 54, 55, 56, 57, 45, 95, 58] : List UInt8) 0 26 = some [97, 98, 99, 100, 101, 102, 103, 104, 105, 106, 107, 108, 109, 110, 111, 112, 113, 114, 115, 116, 117, 118, 119, 120, 121, 122] from rfl, Option.bind_some, hb]
 rfl
theorem attrName_tot (s : List UInt8) : ∃ b, Z2e s = some b := by
 obtain ⟨b, hb⟩ := named_tot s (([97, 98, 99, 100, 101, 102, 103, 104, 105, 106, 107, 108, 109, 110, 111, 112, 113, 114, 115, 116, 117, 118, 119, 120, 121, 122, 45, 95] : List UInt8))
 refine ⟨b, ?_⟩
 unfold Z2e
 rw [show sub? ([97, 98, 99, 100, 101, 102, 103, 104, 105, 106, 107, 108, 109, 110, 111, 112, 113, 114, 115, 116, 117, 118, 119, 120, 121, 122, 48, 49, 50, 51, 52, 53, 54, 55, 56, 57, 45, 95, 58] : List UInt8) 0 26 = some [97, 98, 99, 100, 101, 102, 103, 104, 105, 106, 107, 108, 109, 110, 111, 112, 113, 114, 115, 116, 117, 118, 119, 120, 121, 122] from rfl, Option.bind_some,
  show cat? ([97, 98, 99, 100, 101, 102, 103, 104, 105, 106, 107, 108, 109, 110, 111, 112, 113, 114, 115, 116, 117, 118, 119, 120, 121, 122] : List UInt8) [45, 95] = some [97, 98, 99, 100, 101, 102, 103, 104, 105, 106, 107, 108, 109, 110, 111, 112, 113, 114, 115, 116, 117, 118, 119, 120, 121, 122, 45, 95] from rfl, Option.bind_some, hb]
 rfl
theorem find_loop (l : List TAttr) (x : List UInt8) (hl : l.length ≤ 140737488355328) : ∀ (d i : Nat), i + d = l.length → ∃ r, ∀ m, Zh l x (fun _ => some (-1)) (m + d + 1) (i : Int) = some r
 | 0, i, hi => by
  refine ⟨-1, fun m => ?_⟩
  rw [Zh, if_neg (by simp only [decide_eq_true_eq]; omega)]
 | d + 1, i, hi => by
  have h : i < l.length := by omega
  obtain ⟨r, hr⟩ := find_loop l x hl d (i + 1) (by omega)
  by_cases hc : Z1u l[i] x = true
  ·refine ⟨i, fun m => ?_⟩
   rw [Zh, if_pos (by simp only [decide_eq_true_eq]; omega), at_some h, Option.bind_some, if_pos hc]
  ·refine ⟨r, fun m => ?_⟩
   rw [Zh, if_pos (by simp only [decide_eq_true_eq]; omega), at_some h, Option.bind_some, if_neg hc, wi_id (by omega) (by omega), show (i : Int) + 1 = ((i + 1 : Nat) : Int) by omega]
   exact hr m
theorem find_tot (l : List TAttr) (x : List UInt8) (hl : l.length ≤ 140737488355328) : ∃ r, Z2f l x = some r := by
 obtain ⟨r, hr⟩ := find_loop l x hl l.length 0 (by omega)
 refine ⟨r, ?_⟩
 unfold Z2f Z30
 rw [show (lim fun kk => Zh l x (fun _ => some (-1)) kk 0) = some r from lim_add (l.length + 1) fun m => hr m]
 rfl
theorem attrs_loop (l : List TAttr) (hl : l.length ≤ 12) : ∀ (d i : Nat), i + d = l.length → ∃ r, ∀ m, Z4 l (fun _ => some 0) (m + d + 1) (i : Int) = some r
 | 0, i, hi => by
  refine ⟨0, fun m => ?_⟩
  rw [Z4, if_neg (by simp only [decide_eq_true_eq]; omega)]
 | d + 1, i, hi => by
  have h : i < l.length := by omega
  obtain ⟨r, hr⟩ := attrs_loop l hl d (i + 1) (by omega)
  obtain ⟨b, hb⟩ := attrName_tot l[i].Name
  obtain ⟨q, hq⟩ := find_tot (l.take i) l[i].Name (by rw [List.length_take]; omega)
  have go : ∀ m, Z4 l (fun _ => some 0) (m + (d + 1) + 1) (i : Int) = if (!b) then some 3 else if decide (400 < (l[i].Value.length : Int)) then some 2 else if decide (0 ≤ q) then some 3 else some r := by
   intro m
   rw [Z4, if_pos (by simp only [decide_eq_true_eq]; omega), at_some h, Option.bind_some, hb, Option.bind_some, sub_take (by omega), Option.bind_some, hq, Option.bind_some, wi_id (by omega) (by omega), show (i : Int) + 1 = ((i + 1 : Nat) : Int) by omega,
    show m + (d + 1) = m + d + 1 by omega, hr m]
  by_cases c1 : (!b) = true
  ·exact ⟨3, fun m => by rw [go, if_pos c1]⟩
  by_cases c2 : decide (400 < (l[i].Value.length : Int)) = true
  ·exact ⟨2, fun m => by rw [go, if_neg c1, if_pos c2]⟩
  by_cases c3 : decide (0 ≤ q) = true
  ·exact ⟨3, fun m => by rw [go, if_neg c1, if_neg c2, if_pos c3]⟩
  exact ⟨r, fun m => by rw [go, if_neg c1, if_neg c2, if_neg c3]⟩
theorem attrs_tot (l : List TAttr) : ∃ r, Zl l = some r := by
 unfold Zl
 by_cases h : decide (12 < (l.length : Int)) = true
 ·rw [if_pos h]; exact ⟨_, rfl⟩
 ·rw [if_neg h]
  have hl : l.length ≤ 12 := by simp only [decide_eq_true_eq] at h; omega
  obtain ⟨r, hr⟩ := attrs_loop l hl l.length 0 (by omega)
  exact ⟨r, lim_add (l.length + 1) fun m => hr m⟩
theorem one_tot (x : TNode) : ∃ r, Ze x = some r := by
 obtain ⟨b, hb⟩ := Name_tot x.Name
 obtain ⟨q, hq⟩ := attrs_tot x.Attrs
 have j : ∀ v, ∃ r, Zr x v = some r := by
  intro v
  unfold Zr
  rw [hq, Option.bind_some]
  repeat' split
  all_goals exact ⟨_, rfl⟩
 unfold Ze
 rw [hb, Option.bind_some]
 split
 ·exact ⟨_, rfl⟩
 ·split
  ·exact j _
  ·exact j _
/-! ### kids and parents -/
def ParOK (d : TDoc) : Prop := ∀ (i : Nat) (h : i < d.Nodes.length), d.Nodes[i].Parent = -1 ∨ (0 ≤ d.Nodes[i].Parent ∧ d.Nodes[i].Parent < d.Nodes.length)
def KidOK (d : TDoc) (i : Nat) (k : Int) : Prop := ∃ j : Nat, k = j ∧ ∃ h : j < d.Nodes.length, d.Nodes[j].Parent = i
def KidsTo (d : TDoc) (n : Nat) : Prop := ∀ (i : Nat) (h : i < d.Nodes.length), i < n → ∀ k, k ∈ d.Nodes[i].Kids → KidOK d i k
def Root (d : TDoc) : Prop := ∃ h : 0 < d.Nodes.length, d.Nodes[0].Parent = -1
def KGoal (d : TDoc) (e : Int) : Prop := e = 0 → ParOK d ∧ KidsTo d d.Nodes.length ∧ Root d
def SeenOK (d : TDoc) (seen : List Bool) : Prop := seen.length = d.Nodes.length ∧ ∀ (k : Nat) (h : k < d.Nodes.length), seen[k]? = some true → 0 ≤ d.Nodes[k].Parent ∧ d.Nodes[k].Parent < d.Nodes.length
theorem kids_l3 (d : TDoc) (i : Nat) (hi : i < d.Nodes.length) (hn : d.Nodes.length ≤ 200) (hk : d.Nodes[i].Kids.length ≤ 140737488355328) (E : List Bool → Int) : ∀ (c j : Nat) (seen : List Bool), j + c = d.Nodes[i].Kids.length → SeenOK d seen → (∀ k, k ∈ d.Nodes[i].Kids.take j → KidOK d i k) →
  ∃ e, (((∀ k, k ∈ d.Nodes[i].Kids → KidOK d i k) → ∀ s, SeenOK d s → KGoal d (E s)) → KGoal d e) ∧ ∀ K, (∀ s, SeenOK d s → K s = some (E s)) → ∀ m, Z0 d.Nodes[i] (i : Int) d K (m + c + 1) seen (j : Int) = some e
 | 0, j, seen, hj, hs, hp => by
  refine ⟨E seen, fun hE => hE (by rw [List.take_of_length_le (by omega)] at hp; exact hp) seen hs, fun K hK m => ?_⟩
  rw [Z0, if_neg (by simp only [decide_eq_true_eq]; omega)]
  exact hK seen hs
 | c + 1, j, seen, hj, hs, hp => by
  have h : j < d.Nodes[i].Kids.length := by omega
  have bad3 : ∀ (self : List Bool → Int → Option Int) (K : List Bool → Option Int), Zi (i : Int) d d.Nodes[i].Kids[j] (j : Int) d.Nodes[i] self K seen true = some 3 := by
   intro self K; unfold Zi; rw [if_pos rfl]
  have g3 : KGoal d 3 := fun h => by cases h
  have g7 : KGoal d 7 := fun h => by cases h
  by_cases c1 : ((decide (d.Nodes[i].Kids[j] < 0)) || (decide ((seen.length : Int) ≤ d.Nodes[i].Kids[j]))) = true
  ·refine ⟨3, fun _ => g3, fun K hK m => ?_⟩
   rw [Z0, if_pos (by simp only [decide_eq_true_eq]; omega), at_some h, Option.bind_some, if_pos c1, bad3]
  ·have hr : 0 ≤ d.Nodes[i].Kids[j] ∧ d.Nodes[i].Kids[j] < d.Nodes.length := by
    simp only [Bool.or_eq_true, decide_eq_true_eq] at c1
    have := hs.1
    omega
   obtain ⟨k, ek⟩ : ∃ k : Nat, d.Nodes[i].Kids[j] = k := ⟨d.Nodes[i].Kids[j].toNat, by omega⟩
   have hk1 : k < d.Nodes.length := by omega
   have hk2 : k < seen.length := by rw [hs.1]; exact hk1
   rw [ek] at c1 bad3
   by_cases c2 : d.Nodes[k].Parent = (i : Int)
   ·by_cases c3 : seen[k] = true
    ·refine ⟨3, fun _ => g3, fun K hK m => ?_⟩
     rw [Z0, if_pos (by simp only [decide_eq_true_eq]; omega), at_some h, Option.bind_some, ek, if_neg c1, at_some hk1, Option.bind_some, if_neg (by simpa using c2), at_some hk2, Option.bind_some, c3, bad3]
    ·have c3' : seen[k] = false := by simpa using c3
     have hs' : SeenOK d (seen.set k true) := by
      refine ⟨by rw [List.length_set]; exact hs.1, fun q hq hqs => ?_⟩
      by_cases e : q = k
      ·subst e; rw [c2]; omega
      ·rw [List.getElem?_set_ne (Ne.symm e)] at hqs
       exact hs.2 q hq hqs
     have hp' : ∀ q, q ∈ d.Nodes[i].Kids.take (j + 1) → KidOK d i q := by
      intro q hq
      rw [List.take_add_one, List.getElem?_eq_getElem h] at hq
      rcases List.mem_append.1 hq with hq | hq
      ·exact hp q hq
      ·have : q = d.Nodes[i].Kids[j] := by simpa using hq
       exact ⟨k, by rw [this, ek], hk1, c2⟩
     obtain ⟨e, he1, he2⟩ := kids_l3 d i hi hn hk E c (j + 1) (seen.set k true) (by omega) hs' hp'
     have j18 : ∀ (K : List Bool → Option Int) (m : Nat) (v : Bool), (∀ s, SeenOK d s → K s = some (E s)) → Zy (k : Int) (j : Int) (i : Int) d d.Nodes[i] (Z0 d.Nodes[i] (i : Int) d K (m + c + 1)) K seen v = some (if v then 7 else e) := by
      intro K m v hK
      unfold Zy
      cases v with
      | true => rfl
      | false =>
       rw [if_neg (by simp), at_some hk2, Option.bind_some, wi_id (by omega) (by omega), show (j : Int) + 1 = ((j + 1 : Nat) : Int) by omega, Int.toNat_natCast]
       exact he2 K hK m
     have head : ∀ (K : List Bool → Option Int) (m : Nat), Z0 d.Nodes[i] (i : Int) d K (m + (c + 1) + 1) seen (j : Int) = Zi (i : Int) d (k : Int) (j : Int) d.Nodes[i] (Z0 d.Nodes[i] (i : Int) d K (m + c + 1)) K seen false := by
      intro K m
      rw [Z0, if_pos (by simp only [decide_eq_true_eq]; omega), at_some h, Option.bind_some, ek, if_neg c1, at_some hk1, Option.bind_some, if_neg (by simpa using c2), at_some hk2, Option.bind_some, c3']
      rfl
     by_cases c4 : (decide ((i : Int) = 0) && decide (d.Nodes[k].Kind = 3)) = true
     ·refine ⟨7, fun _ => g7, fun K hK m => ?_⟩
      simp only [Bool.and_eq_true, decide_eq_true_eq] at c4
      rw [head]
      unfold Zi
      rw [if_neg (by simp), if_pos (by simpa using c4.1), at_some hk1, Option.bind_some, j18 K m _ hK, show decide (d.Nodes[k].Kind = 3) = true by simpa using c4.2]
      rfl
     ·refine ⟨e, he1, fun K hK m => ?_⟩
      rw [head]
      unfold Zi
      rw [if_neg (by simp)]
      by_cases c5 : decide ((i : Int) = 0) = true
      ·rw [c5, Bool.true_and] at c4
       rw [if_pos c5, at_some hk1, Option.bind_some, j18 K m _ hK, if_neg c4]
      ·rw [if_neg c5, j18 K m _ hK]
       rfl
   ·refine ⟨3, fun _ => g3, fun K hK m => ?_⟩
    rw [Z0, if_pos (by simp only [decide_eq_true_eq]; omega), at_some h, Option.bind_some, ek, if_neg c1, at_some hk1, Option.bind_some, if_pos (by simpa using c2), bad3]
theorem kids_l2 (d : TDoc) (hn : d.Nodes.length ≤ 200) (hk : ∀ x, x ∈ d.Nodes → x.Kids.length ≤ 140737488355328) (K0 : List Bool → Option Int) (E0 : List Bool → Int) (hK0 : ∀ s, SeenOK d s → K0 s = some (E0 s))
  (hE0 : KidsTo d d.Nodes.length → ∀ s, SeenOK d s → KGoal d (E0 s)) : ∀ (c i : Nat), i + c = d.Nodes.length → ∃ E : List Bool → Int, ∀ s, SeenOK d s → (KidsTo d i → KGoal d (E s)) ∧ ∀ m, Z9 d K0 (m + c + 1) s (i : Int) = some (E s)
 | 0, i, hi => by
  obtain rfl : i = d.Nodes.length := by omega
  refine ⟨E0, fun s hs => ⟨fun hto => hE0 hto s hs, fun m => ?_⟩⟩
  rw [Z9, if_neg (by simp)]
  exact hK0 s hs
 | c + 1, i, hi => by
  have h : i < d.Nodes.length := by omega
  obtain ⟨E1, h1⟩ := kids_l2 d hn hk K0 E0 hK0 hE0 c (i + 1) (by omega)
  have step : ∀ s, SeenOK d s → ∃ e, (KidsTo d i → KGoal d e) ∧ ∀ m, Z9 d K0 (m + (c + 1) + 1) s (i : Int) = some e := by
   intro s hs
   obtain ⟨e, he1, he2⟩ := kids_l3 d i h hn (hk _ (List.getElem_mem h)) E1 d.Nodes[i].Kids.length 0 s (by omega) hs (by simp)
   refine ⟨e, fun hto => he1 fun hall s hs => (h1 s hs).1 ?_, fun m => ?_⟩
   ·intro q hq hlt k hkq
    by_cases e : q = i
    ·subst e; exact hall k hkq
    ·exact hto q hq (by omega) k hkq
   ·rw [Z9, if_pos (by simp only [decide_eq_true_eq]; omega), at_some h, Option.bind_some]
    refine lim_add (d.Nodes[i].Kids.length + 1) fun q => ?_
    refine he2 _ (fun s' hs' => ?_) q
    rw [wi_id (by omega) (by omega), show (i : Int) + 1 = ((i + 1 : Nat) : Int) by omega]
    exact (h1 s' hs').2 m
  exact ⟨fun s => open Classical in if hs : SeenOK d s then (step s hs).choose else 0, fun s hs => by
   simp only [dif_pos hs]
   exact (step s hs).choose_spec⟩
theorem kids_l4 (d : TDoc) (hn : d.Nodes.length ≤ 200) (seen : List Bool) (hs : SeenOK d seen) (E5 : Int) (K5 : Unit → Option Int) (hK5 : K5 () = some E5) : ∀ (c i : Nat), i + c = d.Nodes.length →
  ∃ e, (e = 0 → E5 = 0 ∧ ∀ (q : Nat) (h : q < d.Nodes.length), i ≤ q → d.Nodes[q].Parent = -1 ∨ seen[q]? = some true) ∧ ∀ m, Z1 d K5 (m + c + 1) seen (i : Int) = some e
 | 0, i, hi => by
  refine ⟨E5, fun h => ⟨h, fun q hq hle => by omega⟩, fun m => ?_⟩
  rw [Z1, if_neg (by simp only [decide_eq_true_eq]; omega)]
  exact hK5
 | c + 1, i, hi => by
  have h : i < d.Nodes.length := by omega
  have h2 : i < seen.length := by rw [hs.1]; exact h
  obtain ⟨e, he1, he2⟩ := kids_l4 d hn seen hs E5 K5 hK5 c (i + 1) (by omega)
  have cont : ∀ m, Zs (i : Int) d (Z1 d K5 (m + c + 1)) K5 seen false = some e := by
   intro m
   unfold Zs
   rw [if_neg (by simp), wi_id (by omega) (by omega), show (i : Int) + 1 = ((i + 1 : Nat) : Int) by omega]
   exact he2 m
  have head : ∀ m, Z1 d K5 (m + (c + 1) + 1) seen (i : Int) = if (!decide (d.Nodes[i].Parent = (-1))) then Zs (i : Int) d (Z1 d K5 (m + c + 1)) K5 seen (!seen[i]) else Zs (i : Int) d (Z1 d K5 (m + c + 1)) K5 seen false := by
   intro m
   rw [Z1, if_pos (by simp only [decide_eq_true_eq]; omega), at_some h, Option.bind_some, at_some h2, Option.bind_some]
   rfl
  by_cases c1 : d.Nodes[i].Parent = -1
  ·refine ⟨e, fun h0 => ⟨(he1 h0).1, fun q hq hle => ?_⟩, fun m => by rw [head, if_neg (by simp [c1]), cont]⟩
   by_cases eq : q = i
   ·subst eq; exact .inl c1
   ·exact (he1 h0).2 q hq (by omega)
  ·cases hsi : seen[i] with
   | true =>
    refine ⟨e, fun h0 => ⟨(he1 h0).1, fun q hq hle => ?_⟩, fun m => by rw [head, if_pos (by simp [c1]), hsi]; exact cont m⟩
    by_cases eq : q = i
    ·subst eq; exact .inr (by rw [List.getElem?_eq_getElem h2, hsi])
    ·exact (he1 h0).2 q hq (by omega)
   | false =>
    refine ⟨3, (fun h0 => by cases h0), fun m => ?_⟩
    rw [head, if_pos (by simp [c1]), hsi]
    rfl
theorem kids_tot (d : TDoc) (hn : d.Nodes.length ≤ 200) (h0 : 0 < d.Nodes.length) (hk : ∀ x, x ∈ d.Nodes → x.Kids.length ≤ 140737488355328) : ∃ e, Zz d = some e ∧ KGoal d e := by
 have hroot : ∃ E5, (if (!decide (d.Nodes[0].Parent = (-1))) then some 3 else some (0 : Int)) = some E5 ∧ (E5 = 0 → Root d) := by
  by_cases c : d.Nodes[0].Parent = -1
  ·exact ⟨0, by rw [if_neg (by simp [c])], fun _ => ⟨h0, c⟩⟩
  ·exact ⟨3, by rw [if_pos (by simp [c])], fun h => by cases h⟩
 obtain ⟨E5, e51, e52⟩ := hroot
 have a0 : at? d.Nodes 0 = some d.Nodes[0] := by
  have := at_some h0
  simpa using this
 have k4 : ∀ s, SeenOK d s → ∃ e, (KidsTo d d.Nodes.length → KGoal d e) ∧ (lim fun kk1 => Z1 d (fun (_ : Unit) => (at? d.Nodes 0).bind fun x_8 => if (!decide (x_8.Parent = (-1))) then some 3 else some 0) kk1 s 0) = some e := by
  intro s hs
  obtain ⟨e, he1, he2⟩ := kids_l4 d hn s hs E5 (fun (_ : Unit) => (at? d.Nodes 0).bind fun x_8 => if (!decide (x_8.Parent = (-1))) then some 3 else some 0) (by rw [a0, Option.bind_some]; exact e51) d.Nodes.length 0 (by omega)
  refine ⟨e, fun hto hz => ⟨fun i hi => ?_, hto, e52 (he1 hz).1⟩, lim_add (d.Nodes.length + 1) fun m => he2 m⟩
  rcases (he1 hz).2 i hi (Nat.zero_le _) with h | h
  ·exact .inl h
  ·exact .inr (hs.2 i hi h)
 have hrow : SeenOK d (List.replicate d.Nodes.length false) := by
  refine ⟨by simp, fun k h hk => ?_⟩
  rw [List.getElem?_replicate, if_pos h] at hk
  cases hk
 obtain ⟨E, hE⟩ := kids_l2 d hn hk (fun (seen1 : (List Bool)) => lim fun kk1 => Z1 d (fun (_ : Unit) => (at? d.Nodes 0).bind fun x_8 => if (!decide (x_8.Parent = (-1))) then some 3 else some 0) kk1 seen1 0)
  (fun s => open Classical in if hs : SeenOK d s then (k4 s hs).choose else 0) (fun s hs => by rw [dif_pos hs]; exact (k4 s hs).choose_spec.2) (fun hto s hs => by rw [dif_pos hs]; exact (k4 s hs).choose_spec.1 hto) d.Nodes.length 0 (by omega)
 obtain ⟨g1, g2⟩ := hE _ hrow
 refine ⟨E (List.replicate d.Nodes.length false), ?_, g1 fun i h hlt => by omega⟩
 unfold Zz
 rw [mkl_some (by omega) (Int.le_refl _) (by omega) (by omega), Option.bind_some, Int.toNat_natCast]
 exact lim_add (d.Nodes.length + 1) fun m => g2 m
/-! ### how deep a node lies -/
theorem up_loop (d : TDoc) (hn : d.Nodes.length ≤ 200) (hp : ParOK d) : ∀ (c i many : Nat), i < d.Nodes.length → many + c = d.Nodes.length + 1 → ∃ r, ∀ m, Z6 d (fun many1 => some many1) (m + c + 1) (i : Int) (many : Int) = some r
 | 0, i, many, hi, hc => by
  refine ⟨many, fun m => ?_⟩
  rw [Z6, at_some hi, Option.bind_some, if_neg (by simp only [Bool.and_eq_true, decide_eq_true_eq]; omega)]
 | c + 1, i, many, hi, hc => by
  by_cases hpar : 0 ≤ d.Nodes[i].Parent
  ·have := hp i hi
   obtain ⟨j, ej⟩ : ∃ j : Nat, d.Nodes[i].Parent = j := ⟨d.Nodes[i].Parent.toNat, by omega⟩
   obtain ⟨r, hr⟩ := up_loop d hn hp c j (many + 1) (by omega) (by omega)
   refine ⟨r, fun m => ?_⟩
   rw [Z6, at_some hi, Option.bind_some, if_pos (by simp only [Bool.and_eq_true, decide_eq_true_eq]; omega), Option.bind_some, ej, wi_id (by omega) (by omega), show (many : Int) + 1 = ((many + 1 : Nat) : Int) by omega]
   exact hr m
  ·refine ⟨many, fun m => ?_⟩
   rw [Z6, at_some hi, Option.bind_some, if_neg (by simp only [Bool.and_eq_true, decide_eq_true_eq]; omega)]
theorem up_tot (d : TDoc) (hn : d.Nodes.length ≤ 200) (hp : ParOK d) (i : Nat) (hi : i < d.Nodes.length) : ∃ r, Zv d (i : Int) = some r := by
 obtain ⟨r, hr⟩ := up_loop d hn hp (d.Nodes.length + 1) i 0 hi (by omega)
 refine ⟨r, ?_⟩
 unfold Zv
 exact lim_add (d.Nodes.length + 1 + 1) fun m => hr m
def Deep (d : TDoc) : Prop := ∀ (i : Nat), i < d.Nodes.length → ∃ r, Zv d (i : Int) = some r ∧ r ≤ 40 ∧ r ≤ (d.Nodes.length : Int)
theorem check_l1 (d : TDoc) (hn : d.Nodes.length ≤ 200) (hp : ParOK d) : ∀ (c i : Nat), i + c = d.Nodes.length →
  ∃ e, (e = 0 → ∀ (q : Nat), q < d.Nodes.length → i ≤ q → ∃ r, Zv d (q : Int) = some r ∧ r ≤ 40 ∧ r ≤ (d.Nodes.length : Int)) ∧ ∀ m, Zf d (fun _ => some 0) (m + c + 1) (i : Int) = some e
 | 0, i, hi => by
  refine ⟨0, fun _ q h1 h2 => by omega, fun m => ?_⟩
  rw [Zf, if_neg (by simp only [decide_eq_true_eq]; omega)]
 | c + 1, i, hi => by
  have h : i < d.Nodes.length := by omega
  obtain ⟨r, hr⟩ := up_tot d hn hp i h
  obtain ⟨e, he1, he2⟩ := check_l1 d hn hp c (i + 1) (by omega)
  have head : ∀ m, Zf d (fun _ => some 0) (m + (c + 1) + 1) (i : Int) = if decide ((d.Nodes.length : Int) < r) then some 8 else if decide (40 < r) then some 2 else some e := by
   intro m
   rw [Zf, if_pos (by simp only [decide_eq_true_eq]; omega), hr, Option.bind_some, wi_id (by omega) (by omega), show (i : Int) + 1 = ((i + 1 : Nat) : Int) by omega, show m + (c + 1) = m + c + 1 by omega, he2 m]
  by_cases c1 : decide ((d.Nodes.length : Int) < r) = true
  ·exact ⟨8, (fun h => by cases h), fun m => by rw [head, if_pos c1]⟩
  by_cases c2 : decide (40 < r) = true
  ·exact ⟨2, (fun h => by cases h), fun m => by rw [head, if_neg c1, if_pos c2]⟩
  refine ⟨e, fun h0 q h1 h2 => ?_, fun m => by rw [head, if_neg c1, if_neg c2]⟩
  by_cases eq : q = i
  ·subst eq; exact ⟨r, hr, by simpa using c2, by simpa using c1⟩
  ·exact he1 h0 q h1 (by omega)
theorem check_l0 (d : TDoc) (hn : d.Nodes.length ≤ 200) (E1 : Int) (K1 : Unit → Option Int) (hK : K1 () = some E1) : ∀ (c i : Nat), i + c = d.Nodes.length →
  ∃ e, (e = 0 → E1 = 0 ∧ ∀ (q : Nat) (h : q < d.Nodes.length), i ≤ q → Ze d.Nodes[q] = some 0 ∧ (d.Nodes[q].Kind = 1 ↔ q = 0)) ∧ ∀ m, Za d K1 (m + c + 1) (i : Int) = some e
 | 0, i, hi => by
  refine ⟨E1, fun h => ⟨h, fun q h1 h2 => by omega⟩, fun m => ?_⟩
  rw [Za, if_neg (by simp only [decide_eq_true_eq]; omega)]
  exact hK
 | c + 1, i, hi => by
  have h : i < d.Nodes.length := by omega
  obtain ⟨r, hr⟩ := one_tot d.Nodes[i]
  obtain ⟨e, he1, he2⟩ := check_l0 d hn E1 K1 hK c (i + 1) (by omega)
  have head : ∀ m, Za d K1 (m + (c + 1) + 1) (i : Int) = if (!((decide (d.Nodes[i].Kind = 1) == decide ((i : Int) = 0)) && true)) then some 3 else if (!decide (r = 0)) then some r else some e := by
   intro m
   rw [Za, if_pos (by simp only [decide_eq_true_eq]; omega), at_some h, Option.bind_some, hr, Option.bind_some, wi_id (by omega) (by omega), show (i : Int) + 1 = ((i + 1 : Nat) : Int) by omega, show m + (c + 1) = m + c + 1 by omega, he2 m]
  by_cases c1 : (!((decide (d.Nodes[i].Kind = 1) == decide ((i : Int) = 0)) && true)) = true
  ·exact ⟨3, (fun h => by cases h), fun m => by rw [head, if_pos c1]⟩
  by_cases c2 : (!decide (r = 0)) = true
  ·exact ⟨r, fun h => by simp [h] at c2, fun m => by rw [head, if_neg c1, if_pos c2]⟩
  refine ⟨e, fun h0 => ⟨(he1 h0).1, fun q h1 h2 => ?_⟩, fun m => by rw [head, if_neg c1, if_neg c2]⟩
  by_cases eq : q = i
  ·subst eq
   refine ⟨by simp at c2; rw [hr, c2], ?_⟩
   simp only [Bool.and_true, Bool.not_eq_true', Bool.not_eq_false, beq_iff_eq] at c1
   have c1' : decide (d.Nodes[q].Kind = 1) = decide ((q : Int) = 0) := by simpa using c1
   constructor
   ·intro hk
    have : decide ((q : Int) = 0) = true := by rw [← c1']; simpa using hk
    simp at this
    omega
   ·intro hq
    have : decide (d.Nodes[q].Kind = 1) = true := by rw [c1']; simp [hq]
    simpa using this
  ·exact (he1 h0).2 q h1 (by omega)
/-- what a document is, that is right -/
structure DocOK (d : TDoc) : Prop where
 pos : 0 < d.Nodes.length
 many : d.Nodes.length ≤ 200
 par : ParOK d
 kids : KidsTo d d.Nodes.length
 root : Root d
 deep : Deep d
 one : ∀ (q : Nat) (h : q < d.Nodes.length), Ze d.Nodes[q] = some 0 ∧ (d.Nodes[q].Kind = 1 ↔ q = 0)
theorem check_tot (d : TDoc) (hk : ∀ x, x ∈ d.Nodes → x.Kids.length ≤ 140737488355328) : ∃ e, Z1b d = some e ∧ (e = 0 → DocOK d) := by
 unfold Z1b
 by_cases c1 : decide (200 < (d.Nodes.length : Int)) = true
 ·exact ⟨2, by rw [if_pos c1], fun h => by cases h⟩
 rw [if_neg c1]
 by_cases c2 : decide ((d.Nodes.length : Int) = 0) = true
 ·exact ⟨3, by rw [if_pos c2], fun h => by cases h⟩
 rw [if_neg c2]
 have hn : d.Nodes.length ≤ 200 := by simp only [decide_eq_true_eq] at c1; omega
 have h0 : 0 < d.Nodes.length := by simp only [decide_eq_true_eq] at c2; omega
 obtain ⟨r, r1, r2⟩ := kids_tot d hn h0 hk
 have hE : ∃ E1, ((Zz d).bind fun r_1 => if (!decide (r_1 = 0)) then some r_1 else lim fun kk => Zf d (fun (_ : Unit) => some 0) kk 0) = some E1 ∧ (E1 = 0 → r = 0 ∧ Deep d) := by
  rw [r1, Option.bind_some]
  by_cases c3 : r = 0
  ·rw [if_neg (by simp [c3])]
   obtain ⟨e, he1, he2⟩ := check_l1 d hn (r2 c3).1 d.Nodes.length 0 (by omega)
   exact ⟨e, lim_add (d.Nodes.length + 1) fun m => he2 m, fun hz => ⟨c3, fun q hq => he1 hz q hq (Nat.zero_le _)⟩⟩
  ·rw [if_pos (by simp [c3])]
   exact ⟨r, rfl, fun hz => absurd hz c3⟩
 obtain ⟨E1, e1, e2⟩ := hE
 obtain ⟨e, he1, he2⟩ := check_l0 d hn E1 (fun (_ : Unit) => (Zz d).bind fun r_1 => if (!decide (r_1 = 0)) then some r_1 else lim fun kk => Zf d (fun (_ : Unit) => some 0) kk 0) e1 d.Nodes.length 0 (by omega)
 refine ⟨e, lim_add (d.Nodes.length + 1) fun m => he2 m, fun hz => ?_⟩
 obtain ⟨g1, g2⟩ := e2 (he1 hz).1
 obtain ⟨p1, p2, p3⟩ := r2 g1
 exact ⟨h0, hn, p1, p2, p3, g2, fun q h => (he1 hz).2 q h (Nat.zero_le _)⟩
end Go.Proofs.YtaejmblphhjccaaGreatDoorBv
/- A document that is right: the way up ends, and attributes are short. No program is in sight. -/
namespace Go.Proofs.YtaejmblphhjccaaGreatDoorBv
open Go
set_option linter.unusedSimpArgs false
set_option linter.unusedVariables false
/-- so many steps lead up to the root -/
def Hgt (d : TDoc) : Nat → Nat → Prop
 | 0, i => ∃ h : i < d.Nodes.length, d.Nodes[i].Parent < 0
 | n + 1, i => ∃ h : i < d.Nodes.length, ∃ j : Nat, d.Nodes[i].Parent = (j : Int) ∧ Hgt d n j
theorem up_hgt (d : TDoc) (hn : d.Nodes.length ≤ 200) (hp : ParOK d) : ∀ (c i many : Nat), i < d.Nodes.length → many + c = d.Nodes.length + 1 → ∃ r : Int, (∀ m, Z6 d (fun many1 => some many1) (m + c + 1) (i : Int) (many : Int) = some r) ∧ (r ≤ (d.Nodes.length : Int) → ∃ h, Hgt d h i)
 | 0, i, many, hi, hc => by
  refine ⟨many, fun m => ?_, fun h => by omega⟩
  rw [Z6, at_some hi, Option.bind_some, if_neg (by simp only [Bool.and_eq_true, decide_eq_true_eq]; omega)]
 | c + 1, i, many, hi, hc => by
  by_cases hpar : 0 ≤ d.Nodes[i].Parent
  ·have := hp i hi
   obtain ⟨j, ej⟩ : ∃ j : Nat, d.Nodes[i].Parent = j := ⟨d.Nodes[i].Parent.toNat, by omega⟩
   obtain ⟨r, hr, hh⟩ := up_hgt d hn hp c j (many + 1) (by omega) (by omega)
   refine ⟨r, fun m => ?_, fun h => ?_⟩
   ·rw [Z6, at_some hi, Option.bind_some, if_pos (by simp only [Bool.and_eq_true, decide_eq_true_eq]; omega), Option.bind_some, ej, wi_id (by omega) (by omega), show (many : Int) + 1 = ((many + 1 : Nat) : Int) by omega]
    exact hr m
   ·obtain ⟨n, hN⟩ := hh h
    exact ⟨n + 1, hi, j, ej, hN⟩
  ·refine ⟨many, fun m => ?_, fun _ => ⟨0, hi, by omega⟩⟩
   rw [Z6, at_some hi, Option.bind_some, if_neg (by simp only [Bool.and_eq_true, decide_eq_true_eq]; omega)]
theorem hgt_of {d : TDoc} (h : DocOK d) (i : Nat) (hi : i < d.Nodes.length) : ∃ n, Hgt d n i := by
 obtain ⟨r, hr, h2⟩ := up_hgt d h.many h.par (d.Nodes.length + 1) i 0 hi (by omega)
 obtain ⟨r', h3, _, h4⟩ := h.deep i hi
 have e : Zv d (i : Int) = some r := by
  unfold Zv
  exact lim_add (d.Nodes.length + 1 + 1) fun m => hr m
 rw [e] at h3
 cases h3
 exact h2 h4
theorem hgt_lt {d : TDoc} : ∀ {n i : Nat}, Hgt d n i → i < d.Nodes.length
 | 0, _, ⟨h, _⟩ => h
 | _ + 1, _, ⟨h, _⟩ => h
theorem attrs_short (l : List TAttr) (hl : l.length ≤ 12) : ∀ (c i : Nat), i + c = l.length → (∀ m, Z4 l (fun _ => some 0) (m + c + 1) (i : Int) = some 0) → ∀ (q : Nat) (h : q < l.length), i ≤ q → l[q].Value.length ≤ 400
 | 0, i, hi, _, q, h, hq => by omega
 | c + 1, i, hi, hr, q, h, hq => by
  have hl' : i < l.length := by omega
  obtain ⟨b, hb⟩ := attrName_tot l[i].Name
  obtain ⟨f, hf⟩ := find_tot (l.take i) l[i].Name (by rw [List.length_take]; omega)
  obtain ⟨r2, hr2⟩ := attrs_loop l hl c (i + 1) (by omega)
  have go : ∀ m, Z4 l (fun _ => some 0) (m + (c + 1) + 1) (i : Int) = if (!b) then some 3 else if decide (400 < (l[i].Value.length : Int)) then some 2 else if decide (0 ≤ f) then some 3 else Z4 l (fun _ => some 0) (m + c + 1) ((i + 1 : Nat) : Int) := by
   intro m
   rw [Z4, if_pos (by simp only [decide_eq_true_eq]; omega), at_some hl', Option.bind_some, hb, Option.bind_some, sub_take (by omega), Option.bind_some, hf, Option.bind_some, wi_id (by omega) (by omega), show (i : Int) + 1 = ((i + 1 : Nat) : Int) by omega, show m + (c + 1) = m + c + 1 by omega]
  have h0 := hr 0
  rw [go] at h0
  split at h0
  ·cases h0
  ·split at h0
   ·cases h0
   ·rename_i hv
    split at h0
    ·cases h0
    ·rename_i hff
     by_cases hqi : q = i
     ·subst hqi
      simp only [decide_eq_true_eq] at hv
      omega
     ·refine attrs_short l hl c (i + 1) (by omega) (fun m => ?_) q h (by omega)
      rw [hr2]
      rw [hr2] at h0
      exact h0
theorem one_short {x : TNode} (h : Ze x = some 0) : ∀ a, a ∈ x.Attrs → a.Value.length ≤ 400 := by
 have j : ∀ v, Zr x v = some 0 → Zl x.Attrs = some 0 := by
  intro v hv
  unfold Zr at hv
  split at hv
  ·cases hv
  ·obtain ⟨r, hr, hv⟩ := Option.bind_eq_some_iff.1 hv
   split at hv
   ·rename_i hc
    cases hv
    simp at hc
   ·rename_i hc
    have : r = 0 := by simpa using hc
    rw [this] at hr
    exact hr
 have ha : Zl x.Attrs = some 0 := by
  unfold Ze at h
  split at h
  ·cases h
  ·split at h
   ·obtain ⟨r, _, h⟩ := Option.bind_eq_some_iff.1 h
    exact j _ h
   ·exact j _ h
 unfold Zl at ha
 split at ha
 ·cases ha
 ·rename_i hc
  have hl : x.Attrs.length ≤ 12 := by simp only [decide_eq_true_eq] at hc; omega
  obtain ⟨r, hr⟩ := attrs_loop x.Attrs hl x.Attrs.length 0 (by omega)
  have e : lim (fun kk => Z4 x.Attrs (fun (_ : Unit) => some 0) kk 0) = some r := lim_add (x.Attrs.length + 1) fun m => hr m
  rw [e] at ha
  cases ha
  intro a hm
  obtain ⟨q, hq, rfl⟩ := List.getElem_of_mem hm
  exact attrs_short x.Attrs hl x.Attrs.length 0 (by omega) hr q hq (by omega)
theorem attr_len {x : TNode} (h : Ze x = some 0) : x.Attrs.length ≤ 12 := by
 have j : ∀ v, Zr x v = some 0 → Zl x.Attrs = some 0 := by
  intro v hv
  unfold Zr at hv
  split at hv
  ·cases hv
  ·obtain ⟨r, hr, hv⟩ := Option.bind_eq_some_iff.1 hv
   split at hv
   ·rename_i hc
    cases hv
    simp at hc
   ·rename_i hc
    have : r = 0 := by simpa using hc
    rw [this] at hr
    exact hr
 have ha : Zl x.Attrs = some 0 := by
  unfold Ze at h
  split at h
  ·cases h
  ·split at h
   ·obtain ⟨r, _, h⟩ := Option.bind_eq_some_iff.1 h
    exact j _ h
   ·exact j _ h
 unfold Zl at ha
 split at ha
 ·cases ha
 ·rename_i hc
  simp only [decide_eq_true_eq] at hc; omega
end Go.Proofs.YtaejmblphhjccaaGreatDoorBv
/- A document that is right: each node lies once among the kids of its parent. No program is in sight. -/
namespace Go.Proofs.YtaejmblphhjccaaGreatDoorBv
open Go
set_option linter.unusedSimpArgs false
set_option linter.unusedVariables false
def Adds (d : TDoc) (i : Nat) : List Bool → List Int → List Bool → Prop
 | s, [], s' => s = s'
 | s, k :: r, s' => ∃ j : Nat, k = (j : Int) ∧ j < s.length ∧ s[j]? = some false ∧ Adds d i (s.set j true) r s'
theorem adds_from {d : TDoc} {i : Nat} : ∀ {L : List Int} {s s' : List Bool}, Adds d i s L s' → ∀ j : Nat, s'[j]? = some true → s[j]? = some true ∨ (j : Int) ∈ L
 | [], s, s', h, j, hj => by
  have e : s = s' := h
  subst e
  exact .inl hj
 | k :: r, s, s', h, j, hj => by
  obtain ⟨q, hk, hq, h0, hr⟩ := h
  rcases adds_from hr j hj with h1 | h1
  ·by_cases e : j = q
   ·subst e; exact .inr (by rw [hk]; exact List.mem_cons_self ..)
   ·rw [List.getElem?_set_ne (Ne.symm e)] at h1
    exact .inl h1
  ·exact .inr (List.mem_cons_of_mem _ h1)
theorem adds_nodup {d : TDoc} {i : Nat} : ∀ {L : List Int} {s s' : List Bool}, Adds d i s L s' → L.Nodup ∧ ∀ k, k ∈ L → ∃ j : Nat, k = (j : Int) ∧ s[j]? = some false
 | [], s, s', h => ⟨List.nodup_nil, fun k hk => by cases hk⟩
 | k :: r, s, s', h => by
  obtain ⟨q, hk, hq, h0, hr⟩ := h
  obtain ⟨n1, n2⟩ := adds_nodup hr
  have hne : ∀ x, x ∈ r → x ≠ k ∧ ∃ j : Nat, x = (j : Int) ∧ s[j]? = some false := by
   intro x hx
   obtain ⟨j, hj, hs⟩ := n2 x hx
   by_cases e : j = q
   ·subst e
    rw [List.getElem?_set_self hq] at hs
    cases hs
   ·rw [List.getElem?_set_ne (Ne.symm e)] at hs
    exact ⟨by rw [hj, hk]; omega, j, hj, hs⟩
  refine ⟨List.nodup_cons.2 ⟨fun hm => (hne k hm).1 rfl, n1⟩, fun x hx => ?_⟩
  rcases List.mem_cons.1 hx with rfl | hx
  ·exact ⟨q, hk, h0⟩
  ·exact (hne x hx).2
theorem l3_inv (d : TDoc) (i : Nat) (x : TNode) (hl : x.Kids.length ≤ 140737488355328) (K : List Bool → Option Int) : ∀ (N j : Nat) (s : List Bool), j ≤ x.Kids.length → Z0 x (i : Int) d K N s (j : Int) = some 0 → ∃ s', K s' = some 0 ∧ Adds d i s (x.Kids.drop j) s'
 | 0, j, s, hj, h => by rw [Z0] at h; cases h
 | N + 1, j, s, hj, h => by
  rw [Z0] at h
  by_cases c : j < x.Kids.length
  ·rw [if_pos (by simp only [decide_eq_true_eq]; omega), at_some c, Option.bind_some] at h
   have bad : ∀ v, Zi (i : Int) d x.Kids[j] (j : Int) x (Z0 x (i : Int) d K N) K s v = some 0 → v = false ∧ ∃ q : Nat, True ∧ Z0 x (i : Int) d K N (s.set x.Kids[j].toNat true) ((j + 1 : Nat) : Int) = some 0 := by
    intro v hv
    have j18 : ∀ b, Zy x.Kids[j] (j : Int) (i : Int) d x (Z0 x (i : Int) d K N) K s b = some 0 → Z0 x (i : Int) d K N (s.set x.Kids[j].toNat true) ((j + 1 : Nat) : Int) = some 0 := by
     intro b hb
     unfold Zy at hb
     split at hb
     ·cases hb
     ·obtain ⟨y, _, hb⟩ := Option.bind_eq_some_iff.1 hb
      rw [wi_id (by omega) (by omega), show (j : Int) + 1 = ((j + 1 : Nat) : Int) by omega] at hb
      exact hb
    unfold Zi at hv
    cases v with
    | true => rw [if_pos rfl] at hv; cases hv
    | false =>
     rw [if_neg (by simp)] at hv
     refine ⟨rfl, 0, trivial, ?_⟩
     split at hv
     ·obtain ⟨y, _, hv⟩ := Option.bind_eq_some_iff.1 hv
      exact j18 _ hv
     ·exact j18 _ hv
   split at h
   ·exact absurd (bad true h).1 (by simp)
   ·rename_i hr
    simp only [Bool.or_eq_true, decide_eq_true_eq] at hr
    obtain ⟨y, _, h⟩ := Option.bind_eq_some_iff.1 h
    split at h
    ·exact absurd (bad true h).1 (by simp)
    ·obtain ⟨b, hb, h⟩ := Option.bind_eq_some_iff.1 h
     obtain ⟨hb0, _, _, h⟩ := bad b h
     obtain ⟨q, hq⟩ : ∃ q : Nat, x.Kids[j] = (q : Int) := ⟨x.Kids[j].toNat, by omega⟩
     obtain ⟨s', h1, h2⟩ := l3_inv d i x hl K N (j + 1) _ (by omega) h
     refine ⟨s', h1, ?_⟩
     rw [List.drop_eq_getElem_cons c]
     refine ⟨q, hq, by omega, ?_, ?_⟩
     ·rw [hq, at_nat] at hb
      rw [hb, hb0]
     ·rw [hq, Int.toNat_natCast] at h2
      exact h2
  ·rw [if_neg (by simp only [decide_eq_true_eq]; omega)] at h
   rw [List.drop_of_length_le (by omega)]
   exact ⟨s, h, rfl⟩
theorem l2_inv (d : TDoc) (hn : d.Nodes.length ≤ 200) (hk : ∀ x, x ∈ d.Nodes → x.Kids.length ≤ 140737488355328) (K : List Bool → Option Int) : ∀ (N i : Nat) (s : List Bool), i ≤ d.Nodes.length → Z9 d K N s (i : Int) = some 0 →
  ∃ s', K s' = some 0 ∧ (∀ (q : Nat) (h : q < d.Nodes.length), i ≤ q → d.Nodes[q].Kids.Nodup) ∧ ∀ j : Nat, s'[j]? = some true → s[j]? = some true ∨ ∃ (q : Nat) (h : q < d.Nodes.length), (j : Int) ∈ d.Nodes[q].Kids
 | 0, i, s, hi, h => by rw [Z9] at h; cases h
 | N + 1, i, s, hi, h => by
  rw [Z9] at h
  by_cases c : i < d.Nodes.length
  ·rw [if_pos (by simp only [decide_eq_true_eq]; omega), at_some c, Option.bind_some] at h
   obtain ⟨kk, h⟩ := lim_some h
   obtain ⟨s1, h1, h2⟩ := l3_inv d i d.Nodes[i] (hk _ (List.getElem_mem c)) _ kk 0 s (by omega) h
   rw [wi_id (by omega) (by omega), show (i : Int) + 1 = ((i + 1 : Nat) : Int) by omega] at h1
   obtain ⟨s', a1, a2, a3⟩ := l2_inv d hn hk K N (i + 1) s1 (by omega) h1
   rw [List.drop_zero] at h2
   refine ⟨s', a1, fun q hq hle => ?_, fun j hj => ?_⟩
   ·by_cases e : q = i
    ·subst e; exact (adds_nodup h2).1
    ·exact a2 q hq (by omega)
   ·rcases a3 j hj with h3 | h3
    ·rcases adds_from h2 j h3 with h4 | h4
     ·exact .inl h4
     ·exact .inr ⟨i, c, h4⟩
    ·exact .inr h3
  ·rw [if_neg (by simp only [decide_eq_true_eq]; omega)] at h
   exact ⟨s, h, fun q hq hle => by omega, fun j hj => .inl hj⟩
theorem l4_inv (d : TDoc) (hn : d.Nodes.length ≤ 200) (K : Unit → Option Int) (s : List Bool) : ∀ (N i : Nat), i ≤ d.Nodes.length → Z1 d K N s (i : Int) = some 0 → ∀ (q : Nat) (h : q < d.Nodes.length), i ≤ q → d.Nodes[q].Parent = -1 ∨ s[q]? = some true
 | 0, i, hi, h, q, hq, hle => by rw [Z1] at h; cases h
 | N + 1, i, hi, h, q, hq, hle => by
  have c : i < d.Nodes.length := by omega
  rw [Z1, if_pos (by simp only [decide_eq_true_eq]; omega), at_some c, Option.bind_some] at h
  have j21 : ∀ v, Zs (i : Int) d (Z1 d K N) K s v = some 0 → v = false ∧ Z1 d K N s ((i + 1 : Nat) : Int) = some 0 := by
   intro v hv
   unfold Zs at hv
   cases v with
   | true => rw [if_pos rfl] at hv; cases hv
   | false =>
    rw [if_neg (by simp), wi_id (by omega) (by omega), show (i : Int) + 1 = ((i + 1 : Nat) : Int) by omega] at hv
    exact ⟨rfl, hv⟩
  split at h
  ·obtain ⟨b, hb, h⟩ := Option.bind_eq_some_iff.1 h
   obtain ⟨h1, h2⟩ := j21 _ h
   by_cases e : q = i
   ·subst e
    rw [at_nat] at hb
    refine .inr ?_
    rw [hb]
    cases b <;> simp_all
   ·exact l4_inv d hn K s N (i + 1) (by omega) h2 q hq (by omega)
  ·rename_i hp
   obtain ⟨h1, h2⟩ := j21 _ h
   by_cases e : q = i
   ·subst e
    exact .inl (by simpa using hp)
   ·exact l4_inv d hn K s N (i + 1) (by omega) h2 q hq (by omega)
structure Full (d : TDoc) : Prop where
 nodup : ∀ (q : Nat) (h : q < d.Nodes.length), d.Nodes[q].Kids.Nodup
 kid : ∀ (q : Nat) (h : q < d.Nodes.length), d.Nodes[q].Parent = -1 ∨ ∃ (p : Nat) (hp : p < d.Nodes.length), (q : Int) ∈ d.Nodes[p].Kids
theorem c0_inv (d : TDoc) (hn : d.Nodes.length ≤ 200) (K : Unit → Option Int) : ∀ (N i : Nat), i ≤ d.Nodes.length → Za d K N (i : Int) = some 0 → K () = some 0
 | 0, i, hi, h => by rw [Za] at h; cases h
 | N + 1, i, hi, h => by
  rw [Za] at h
  by_cases c : i < d.Nodes.length
  ·rw [if_pos (by simp only [decide_eq_true_eq]; omega), at_some c, Option.bind_some] at h
   split at h
   ·cases h
   ·obtain ⟨r, _, h⟩ := Option.bind_eq_some_iff.1 h
    split at h
    ·rename_i hr
     cases h
     simp at hr
    ·rw [wi_id (by omega) (by omega), show (i : Int) + 1 = ((i + 1 : Nat) : Int) by omega] at h
     exact c0_inv d hn K N (i + 1) (by omega) h
  ·rw [if_neg (by simp only [decide_eq_true_eq]; omega)] at h
   exact h
theorem full_of {d : TDoc} (hk : ∀ x, x ∈ d.Nodes → x.Kids.length ≤ 140737488355328) (hd : DocOK d) (h : Z1b d = some 0) : Full d := by
 have hn := hd.many
 unfold Z1b at h
 split at h
 ·cases h
 ·split at h
  ·cases h
  ·obtain ⟨kk, h⟩ := lim_some h
   have h1 := c0_inv d hn _ kk 0 (by omega) h
   obtain ⟨r, hr, h1⟩ := Option.bind_eq_some_iff.1 h1
   have hr0 : r = 0 := by
    split at h1
    ·rename_i hc
     cases h1
     simp at hc
    ·rename_i hc
     simpa using hc
   rw [hr0] at hr
   unfold Zz at hr
   rw [mkl_some (by omega) (Int.le_refl _) (by omega) (by omega), Option.bind_some, Int.toNat_natCast] at hr
   obtain ⟨k2, hr⟩ := lim_some hr
   obtain ⟨s', a1, a2, a3⟩ := l2_inv d hn hk _ k2 0 _ (by omega) hr
   obtain ⟨k1, a1⟩ := lim_some a1
   have a4 := l4_inv d hn _ s' k1 0 (by omega) a1
   refine ⟨fun q hq => a2 q hq (by omega), fun q hq => ?_⟩
   rcases a4 q hq (by omega) with h5 | h5
   ·exact .inl h5
   ·rcases a3 q h5 with h6 | h6
    ·rw [List.getElem?_replicate] at h6
     split at h6 <;> cases h6
    ·exact .inr h6
end Go.Proofs.YtaejmblphhjccaaGreatDoorBv
/- The document's digits of a number (chapter 2): strconv's. No program is in sight. -/
namespace Go.Proofs.YtaejmblphhjccaaGreatDoorBv
open Go
set_option linter.unusedSimpArgs false
set_option linter.unusedVariables false
theorem dig_byte (n : Nat) : byts [wr .u8 (wi (48 + ((n : Int).tmod 10)))] = [UInt8.ofNat (48 + n % 10)] := by
 have h2 : ((n : Int)).tmod 10 = ((n % 10 : Nat) : Int) := by rw [Int.tmod_eq_emod_of_nonneg (by omega)]; omega
 rw [h2, wi_id (by omega) (by omega), wr_u8]
 unfold byts
 simp only [List.map_cons, List.map_nil]
 congr 2
 omega
theorem digits2_loop : ∀ (d n : Nat), n ≤ d → n ≤ 9223372036854775807 → ∀ k, Z24 (k + d + 1) (n : Int) = some (Lib.decDigits n)
 | d, n, hd, hi, k => by
  unfold Z24
  by_cases h : n < 10
  ·rw [if_neg (by simp only [decide_eq_true_eq]; omega), dig_byte, Nat.mod_eq_of_lt h, Lib.decDigits_one h]
   rfl
  ·obtain ⟨e, rfl⟩ : ∃ e, d = e + 1 := ⟨d - 1, by omega⟩
   have h1 : ((n : Int)).tdiv 10 = ((n / 10 : Nat) : Int) := by rw [Int.tdiv_eq_ediv_of_nonneg (by omega)]; omega
   have r1 := digits2_loop e (n / 10) (by omega) (by omega) k
   have l1 := Lib.nDigits_le20 (n / 10) (by omega)
   rw [if_pos (by simp only [decide_eq_true_eq]; omega), dig_byte, h1, wi_id (by omega) (by omega), show k + (e + 1) = k + e + 1 by omega, r1, Option.bind_some,
    catq (by rw [Lib.decDigits_length]; simp; omega), Option.bind_some]
   conv => rhs; rw [Lib.decDigits, dif_neg h]
   rfl
theorem digits2_eq (n : Nat) (h : n ≤ 9223372036854775807) : Z1k (n : Int) = some (Lib.decDigits n) := by
 unfold Z1k
 exact lim_add (n + 1) fun k => digits2_loop n n (Nat.le_refl _) h k
end Go.Proofs.YtaejmblphhjccaaGreatDoorBv
/- The document's digits of a number with its sign (chapter 2): strconv's. No program is in sight. -/
namespace Go.Proofs.YtaejmblphhjccaaGreatDoorBv
open Go
set_option linter.unusedSimpArgs false
set_option linter.unusedVariables false
theorem signed_loop : ∀ (d m : Nat), m ≤ d → 1 ≤ m → m ≤ 9223372036854775807 → ∀ k, Z1l (k + d + 1) (-(m : Int)) = some (45 :: Lib.decDigits m)
 | d, m, hd, h1, hm, k => by
  unfold Z1l
  have l0 := Lib.nDigits_le20 m (by omega)
  by_cases h : m < 10
  ·rw [if_neg (by simp only [decide_eq_true_eq]; omega), if_pos (by simp only [decide_eq_true_eq]; omega), show (0 : Int) - -(m : Int) = (m : Int) by omega, wi_id (by omega) (by omega), digits2_eq m hm, Option.bind_some,
    catq (by rw [Lib.decDigits_length]; simp; omega), Option.bind_some]
   rfl
  ·obtain ⟨e, rfl⟩ : ∃ e, d = e + 1 := ⟨d - 1, by omega⟩
   have e1 : (-(m : Int)).tdiv 10 = -((m / 10 : Nat) : Int) := by rw [Int.neg_tdiv, Int.tdiv_eq_ediv_of_nonneg (by omega)]; omega
   have e2 : (-(m : Int)).tmod 10 = -((m % 10 : Nat) : Int) := by rw [Int.neg_tmod, Int.tmod_eq_emod_of_nonneg (by omega)]; omega
   have r1 := signed_loop e (m / 10) (by omega) (by omega) (by omega) k
   have l1 := Lib.nDigits_le20 (m / 10) (by omega)
   have l2 := Lib.nDigits_le20 (m % 10) (by omega)
   rw [if_pos (by simp only [decide_eq_true_eq]; omega), e1, e2, wi_id (by omega) (by omega), show k + (e + 1) = k + e + 1 by omega, r1, Option.bind_some, show (0 : Int) - -((m % 10 : Nat) : Int) = ((m % 10 : Nat) : Int) by omega,
    wi_id (by omega) (by omega), digits2_eq (m % 10) (by omega), Option.bind_some, catq (by rw [List.length_cons, Lib.decDigits_length, Lib.decDigits_length]; omega), Option.bind_some, Lib.decDigits_one (show m % 10 < 10 by omega)]
   conv => rhs; rw [Lib.decDigits, dif_neg h]
   rfl
theorem signed_eq (n : Int) (h1 : -9223372036854775807 ≤ n) (h2 : n ≤ 9223372036854775807) : Z1m n = some (Lib.itoa n) := by
 unfold Z1m
 by_cases h : n < 0
 ·obtain ⟨m, rfl⟩ : ∃ m : Nat, n = -(m : Int) := ⟨n.natAbs, by omega⟩
  have e : Lib.itoa (-(m : Int)) = 45 :: Lib.decDigits m := by unfold Lib.itoa; rw [if_pos h]; simp
  rw [e]
  exact lim_add (m + 1) fun k => signed_loop m m (Nat.le_refl _) (by omega) (by omega) k
 ·obtain ⟨m, rfl⟩ : ∃ m : Nat, n = (m : Int) := ⟨n.toNat, by omega⟩
  have e : Lib.itoa (m : Int) = Lib.decDigits m := by unfold Lib.itoa; rw [if_neg h]; simp
  rw [e]
  refine lim_add 1 fun k => ?_
  unfold Z1l
  rw [if_neg (by simp only [decide_eq_true_eq]; omega), if_neg (by simp only [decide_eq_true_eq]; omega), digits2_eq m (by omega)]
  rfl
end Go.Proofs.YtaejmblphhjccaaGreatDoorBv
/- A number that an attribute tells. No program is in sight. -/
namespace Go.Proofs.YtaejmblphhjccaaGreatDoorBv
open Go
set_option linter.unusedSimpArgs false
set_option linter.unusedVariables false
def dgB (c : UInt8) : Bool := decide (48 ≤ c.toNat) && decide (c.toNat ≤ 57)
theorem digB_eq (c : UInt8) : Z13 (c.toNat : Int) = dgB c := by
 unfold Z13 dgB
 rw [Bool.eq_iff_iff]
 simp only [Bool.and_eq_true, decide_eq_true_eq]
 omega
theorem ofNat_dig {m : Nat} (h : m < 10) : (UInt8.ofNat (48 + m)).toNat = 48 + m := by
 rw [UInt8.toNat_ofNat']
 omega
theorem dec_digits : ∀ (m : Nat), (Lib.decDigits m).all dgB = true := by
 intro m
 induction m using Nat.strongRecOn with
 | _ m ih =>
  rw [Lib.decDigits]
  split
  ·rename_i h
   have := ofNat_dig h
   simp only [List.all_cons, List.all_nil, Bool.and_true, dgB, this, Bool.and_eq_true, decide_eq_true_eq]
   omega
  ·have := ofNat_dig (show m % 10 < 10 by omega)
   rw [List.all_append, ih (m / 10) (by omega)]
   simp only [List.all_cons, List.all_nil, Bool.and_true, Bool.true_and, dgB, this, Bool.and_eq_true, decide_eq_true_eq]
   omega
theorem dec_len : ∀ (k m : Nat), m < 10 ^ (k + 1) → (Lib.decDigits m).length ≤ k + 1
 | 0, m, h => by
  rw [Lib.decDigits, dif_pos (by omega)]
  simp
 | k + 1, m, h => by
  rw [Lib.decDigits]
  split
  ·simp
  ·rw [List.length_append]
   have := dec_len k (m / 10) (by rw [Nat.pow_succ] at h; omega)
   simp
   omega
theorem dec_ne (m : Nat) : Lib.decDigits m ≠ [] := by
 rw [Lib.decDigits]
 split <;> simp
theorem parse_app : ∀ (a b : List UInt8) (acc : Nat), Lib.parseUint10 acc (a ++ b) = match Lib.parseUint10 acc a with | .ok v => Lib.parseUint10 v b | .syntax => .syntax | .range => .range
 | [], b, acc => rfl
 | c :: r, b, acc => by
  rw [List.cons_append, Lib.parseUint10, Lib.parseUint10]
  split
  ·split
   ·rfl
   ·split
    ·rfl
    ·exact parse_app r b _
  ·rfl
theorem parse_dec : ∀ (m : Nat), m < 1000000000000 → Lib.parseUint10 0 (Lib.decDigits m) = .ok m := by
 intro m
 induction m using Nat.strongRecOn with
 | _ m ih =>
  intro hm
  rw [Lib.decDigits]
  split
  ·rename_i h
   have := ofNat_dig h
   rw [Lib.parseUint10, this, if_pos (by omega), if_neg (by omega), if_neg (by omega), Lib.parseUint10]
   congr 1
   omega
  ·have := ofNat_dig (show m % 10 < 10 by omega)
   rw [parse_app, ih (m / 10) (by omega) (by omega)]
   simp only
   rw [Lib.parseUint10, this, if_pos (by omega), if_neg (by omega), if_neg (by omega), Lib.parseUint10]
   congr 1
   omega
theorem dec_head {m : Nat} {c : UInt8} {r : List UInt8} (h : Lib.decDigits m = c :: r) : 48 ≤ c.toNat ∧ c.toNat ≤ 57 := by
 have := dec_digits m
 rw [h, List.all_cons, Bool.and_eq_true] at this
 have h1 := this.1
 unfold dgB at h1
 simpa using h1
def InR (n : Int) : Prop := -1000000 ≤ n ∧ n ≤ 1000000
instance (n : Int) : Decidable (InR n) := inferInstanceAs (Decidable (_ ∧ _))
theorem atoi_itoa {n : Int} (h : InR n) : Lib.atoiAll (Lib.itoa n) = .ok n := by
 obtain ⟨h1, h2⟩ := h
 unfold Lib.itoa
 split
 ·rename_i hn
  have hp := parse_dec n.natAbs (by omega)
  have hm : Lib.parseMag (Lib.decDigits n.natAbs) = .ok n.natAbs := by unfold Lib.parseMag; rw [if_neg (dec_ne _), hp]
  unfold Lib.atoiAll
  dsimp only
  rw [if_pos (show (45 : UInt8).toNat = 43 ∨ (45 : UInt8).toNat = 45 from .inr rfl), hm]
  dsimp only
  rw [if_neg (fun h => h.1 rfl), if_neg (fun h => by have := h.2; omega), if_pos (show (45 : UInt8).toNat = 45 from rfl)]
  congr 1
  omega
 ·rename_i hn
  have hp := parse_dec n.toNat (by omega)
  cases hd : Lib.decDigits n.toNat with
  | nil => exact absurd hd (dec_ne _)
  | cons c r =>
   have hh := dec_head hd
   unfold Lib.atoiAll
   simp only
   rw [if_neg (by omega), ← hd]
   unfold Lib.parseMag
   rw [if_neg (dec_ne _), hp]
   simp only
   rw [if_neg (by omega), if_neg (by omega), if_neg (by omega)]
   congr 1
   omega
theorem itoa_len {n : Int} (h : InR n) : (Lib.itoa n).length ≤ 8 := by
 obtain ⟨h1, h2⟩ := h
 unfold Lib.itoa
 split
 ·have := dec_len 6 n.natAbs (by omega)
  simp
  omega
 ·have := dec_len 6 n.toNat (by omega)
  omega
theorem itoa_inj {n m : Int} (hn : InR n) (hm : InR m) (h : Lib.itoa n = Lib.itoa m) : n = m := by
 have := atoi_itoa hn
 rw [h, atoi_itoa hm] at this
 cases this
 rfl
/-! ### a text as a number -/
noncomputable def tnum (s : List UInt8) : Option Int := open Classical in if h : ∃ n, InR n ∧ s = Lib.itoa n then some h.choose else none
theorem tnum_some {s : List UInt8} {n : Int} : tnum s = some n ↔ InR n ∧ s = Lib.itoa n := by
 unfold tnum
 constructor
 ·intro h
  split at h
  ·rename_i hx
   cases h
   exact hx.choose_spec
  ·cases h
 ·intro h
  rw [dif_pos ⟨n, h⟩]
  have hs := (⟨n, h⟩ : ∃ n, InR n ∧ s = Lib.itoa n).choose_spec
  congr 1
  exact itoa_inj hs.1 h.1 (hs.2.symm.trans h.2)
theorem tnum_none {s : List UInt8} (h : tnum s = none) (n : Int) (hn : InR n) : Lib.itoa n ≠ s := by
 intro e
 have := tnum_some.2 ⟨hn, e.symm⟩
 rw [h] at this
 cases this
theorem mark2 {n : Int} (h : InR n) : Zk 2 n = some (Lib.itoa n) := by
 obtain ⟨h1, h2⟩ := h
 unfold Zk
 rw [if_neg (by decide), if_neg (by decide), if_neg (by simp), if_neg (by simp), if_neg (by simp), if_neg (by simp)]
 show (itoa? n).bind _ = _
 unfold itoa?
 rw [if_pos (by omega), Option.bind_some]
theorem in_eq (n : Int) : Z2 n (-1000000) 1000000 = true ↔ InR n := by
 unfold Z2 InR
 simp
theorem back_eq {s : List UInt8} (hs : s.length ≤ 400) : Z2n 2 s = some (match tnum s with | some n => (n, 0) | none => (0, 5)) := by
 have j5 : ∀ r : Int × Bool, Z10 r 2 s = some (if InR r.1 ∧ Lib.itoa r.1 = s then (r.1, 0) else (0, 5)) := by
  intro r
  unfold Z10 Z2l
  by_cases hr : InR r.1
  ·rw [if_neg (by simp [(in_eq r.1).2 hr]), mark2 hr, Option.bind_some]
   by_cases e : Lib.itoa r.1 = s
   ·rw [if_neg (by simpa using e), if_pos ⟨hr, e⟩]
   ·rw [if_pos (by simpa using e), if_neg (fun h => e h.2)]
  ·have : Z2 r.1 (-1000000) 1000000 = false := by
    cases hc : Z2 r.1 (-1000000) 1000000 with
    | false => rfl
    | true => exact absurd ((in_eq r.1).1 hc) hr
   rw [if_pos (by simp [this]), if_pos rfl, if_neg (fun h => hr h.1)]
 have jall : ∀ r : Int × Bool, (if r.2 then (if decide ((2 : Int) = 3) then Z1h 2 r s (decide ((2 : Int) = 3)) else Z1h 2 r s (decide ((2 : Int) = 4))) else Z10 r 2 s) = Z10 r 2 s := by
  intro r
  unfold Z1h Z2m
  cases r.2 <;> simp
 unfold Z2n
 rw [if_neg (by decide)]
 show (atoi? s).bind _ = _
 unfold atoi?
 rw [if_pos (by omega), Option.bind_some, jall, j5]
 congr 1
 cases ht : tnum s with
 | some n =>
  obtain ⟨hn, e⟩ := tnum_some.1 ht
  subst e
  rw [atoi_itoa hn]
  simp only
  rw [if_pos ⟨hn, trivial⟩]
 | none =>
  simp only
  rw [if_neg]
  rintro ⟨h1, h2⟩
  exact tnum_none ht _ h1 h2
def named (name : List UInt8) (a : TAttr) : Bool := decide (a.Name = name)
noncomputable def numT (x : TNode) (name : List UInt8) : Option Int := (x.Attrs.find? (named name)).bind fun a => tnum a.Value
theorem told_loop (x : TNode) (name : List UInt8) (hl : x.Attrs.length ≤ 12) (hv : ∀ a, a ∈ x.Attrs → a.Value.length ≤ 400) : ∀ (N i : Nat), x.Attrs.length - i < N → i ≤ x.Attrs.length →
  Zw x name (fun _ => some (0, false)) N (i : Int) = some (match ((x.Attrs.drop i).find? (named name)).bind fun a => tnum a.Value with | some n => (n, true) | none => (0, false))
 | 0, i, hN, hi => by omega
 | N + 1, i, hN, hi => by
  rw [Zw]
  by_cases h : i < x.Attrs.length
  ·rw [if_pos (by simp only [decide_eq_true_eq]; omega), at_some h, Option.bind_some, List.drop_eq_getElem_cons h, List.find?_cons]
   show (if named name x.Attrs[i] = true then _ else _) = _
   cases hb : named name x.Attrs[i] with
   | true =>
    rw [if_pos rfl, back_eq (hv _ (List.getElem_mem h)), Option.bind_some]
    simp only [Option.bind_some]
    cases tnum x.Attrs[i].Value <;> rfl
   | false =>
    rw [if_neg (by simp), wi_id (by omega) (by omega), show (i : Int) + 1 = ((i + 1 : Nat) : Int) by omega]
    exact told_loop x name hl hv N (i + 1) (by omega) (by omega)
  ·rw [if_neg (by simp only [decide_eq_true_eq]; omega), List.drop_of_length_le (by omega)]
   rfl
theorem told_eq {x : TNode} (h : Ze x = some 0) (name : List UInt8) : Z1y x name = some (match numT x name with | some n => (n, true) | none => (0, false)) := by
 unfold Z1y
 refine lim_eq (x.Attrs.length + 1) fun k hk => ?_
 have := told_loop x name (attr_len h) (one_short h) k 0 (by omega) (by omega)
 rw [List.drop_zero] at this
 exact this
/-! ### the document's number -/
theorem attrOf_loop (x : TNode) (name : List UInt8) (hl : x.Attrs.length ≤ 12) : ∀ (N i : Nat), x.Attrs.length - i < N → i ≤ x.Attrs.length → Zt x name (fun _ => some ([], false)) N (i : Int) = some (match (x.Attrs.drop i).find? (named name) with | some a => (a.Value, true) | none => ([], false))
 | 0, i, hN, hi => by omega
 | N + 1, i, hN, hi => by
  rw [Zt]
  by_cases h : i < x.Attrs.length
  ·rw [if_pos (by simp only [decide_eq_true_eq]; omega), at_some h, Option.bind_some, List.drop_eq_getElem_cons h, List.find?_cons]
   show (if named name x.Attrs[i] = true then _ else _) = _
   cases hb : named name x.Attrs[i] with
   | true => rw [if_pos rfl]; rfl
   | false =>
    rw [if_neg (by simp), wi_id (by omega) (by omega), show (i : Int) + 1 = ((i + 1 : Nat) : Int) by omega]
    exact attrOf_loop x name hl N (i + 1) (by omega) (by omega)
  ·rw [if_neg (by simp only [decide_eq_true_eq]; omega), List.drop_of_length_le (by omega)]
   rfl
def okAt (s : List UInt8) (i : Nat) : Bool := (s.drop i).all dgB || (decide (i = 0) && decide (s.head? = some 45) && (s.drop 1).all dgB)
theorem num_l0 (s : List UInt8) (b : Bool) (hl : s.length ≤ 8) (K : Unit → Option (Int × Bool)) : ∀ (N i : Nat), s.length - i < N → i ≤ s.length → Z7 (s, b) K N (i : Int) = if okAt s i then K () else some (0, false)
 | 0, i, hN, hi => by omega
 | N + 1, i, hN, hi => by
  have j3 : ∀ v, Z1n (i : Int) (s, b) (Z7 (s, b) K N) K v = if v then some (0, false) else Z7 (s, b) K N ((i + 1 : Nat) : Int) := by
   intro v
   unfold Z1n
   rw [wi_id (by omega) (by omega), show (i : Int) + 1 = ((i + 1 : Nat) : Int) by omega]
  rw [Z7]
  simp only [j3]
  by_cases h : i < s.length
  ·have ih := num_l0 s b hl K N (i + 1) (by omega) (by omega)
   have e := List.drop_eq_getElem_cons h
   have okn : okAt s (i + 1) = (s.drop (i + 1)).all dgB := by unfold okAt; simp
   rw [if_pos (by simp only [decide_eq_true_eq]; omega), at_some h, Option.bind_some, digB_eq, ih, okn]
   cases hd : dgB s[i] with
   | true =>
    rw [if_neg (by simp), if_neg (by simp)]
    have : okAt s i = (s.drop (i + 1)).all dgB := by
     unfold okAt
     rw [e, List.all_cons, hd, Bool.true_and]
     by_cases h0 : i = 0
     ·subst h0
      simp only [Nat.zero_add, decide_true, Bool.true_and]
      cases (s.drop 1).all dgB <;> simp
     ·simp [h0]
    rw [this]
   | false =>
    rw [if_pos (by simp), Option.bind_some]
    by_cases h0 : i = 0
    ·subst h0
     rw [if_neg (by simp)]
     have hhead : s.head? = some s[0] := by rw [List.head?_eq_getElem?, List.getElem?_eq_getElem h]
     have : okAt s 0 = (decide (s[0] = 45) && (s.drop (0 + 1)).all dgB) := by
      unfold okAt
      rw [e, List.all_cons, hd, hhead]
      simp
     rw [this]
     by_cases h45 : s[0] = 45
     ·rw [if_neg (by simp [h45])]; simp [h45]
     ·have : ¬ ((s[0].toNat : Int) = 45) := fun hh => h45 (UInt8.toNat_inj.1 (by have : (45 : UInt8).toNat = 45 := rfl; omega))
      rw [if_pos (by simpa using this)]; simp [h45]
    ·rw [if_pos (by simp only [decide_eq_true_eq]; omega)]
     have : okAt s i = false := by
      unfold okAt
      rw [e, List.all_cons, hd]
      simp [h0]
     rw [this]
     simp
  ·rw [if_neg (by simp only [decide_eq_true_eq]; omega)]
   have : okAt s i = true := by unfold okAt; rw [List.drop_of_length_le (by omega)]; rfl
   rw [this]
   simp
def valD (k : Nat) (l : List UInt8) : Nat := l.foldl (fun k c => if dgB c then 10 * k + (c.toNat - 48) else k) k
theorem valD_lt : ∀ (l : List UInt8) (k n : Nat), k < 10 ^ n → valD k l < 10 ^ (n + l.length)
 | [], k, n, h => h
 | c :: r, k, n, h => by
  unfold valD
  rw [List.foldl_cons, List.length_cons, show n + (r.length + 1) = (n + 1) + r.length by omega]
  refine valD_lt r _ (n + 1) ?_
  rw [Nat.pow_succ]
  split
  ·rename_i hc
   unfold dgB at hc
   simp only [Bool.and_eq_true, decide_eq_true_eq] at hc
   omega
  ·omega
theorem valD_app (a b : List UInt8) (k : Nat) : valD k (a ++ b) = valD (valD k a) b := List.foldl_append ..
theorem valD_dec : ∀ (m : Nat), valD 0 (Lib.decDigits m) = m := by
 intro m
 induction m using Nat.strongRecOn with
 | _ m ih =>
  rw [Lib.decDigits]
  have one : ∀ (k q : Nat), q < 10 → valD k [UInt8.ofNat (48 + q)] = 10 * k + q := by
   intro k q hq
   have := ofNat_dig hq
   unfold valD
   simp only [List.foldl_cons, List.foldl_nil, dgB, this]
   rw [if_pos (by simp; omega)]
   omega
  split
  ·rename_i h
   rw [one 0 m h]
   omega
  ·rw [valD_app, ih (m / 10) (by omega), one _ _ (by omega)]
   omega
theorem num_l1 (s : List UInt8) (b : Bool) (hl : s.length ≤ 8) (K : Int → Option (Int × Bool)) : ∀ (N i k : Nat), s.length - i < N → i ≤ s.length → k < 10 ^ i → Zg (s, b) K N (k : Int) (i : Int) = K ((valD k (s.drop i) : Nat) : Int)
 | 0, i, k, hN, hi, hk => by omega
 | N + 1, i, k, hN, hi, hk => by
  rw [Zg]
  by_cases h : i < s.length
  ·have hpow : 10 ^ i ≤ 10 ^ 8 := Nat.pow_le_pow_right (by omega) (by omega)
   rw [if_pos (by simp only [decide_eq_true_eq]; omega), at_some h, Option.bind_some, digB_eq, List.drop_eq_getElem_cons h]
   unfold Z2q
   rw [wi_id (n := (i : Int) + 1) (by omega) (by omega), show (i : Int) + 1 = ((i + 1 : Nat) : Int) by omega]
   have ev : valD k (s[i] :: s.drop (i + 1)) = valD (if dgB s[i] then 10 * k + (s[i].toNat - 48) else k) (s.drop (i + 1)) := rfl
   rw [ev]
   cases hd : dgB s[i] with
   | true =>
    have hc := hd
    unfold dgB at hc
    simp only [Bool.and_eq_true, decide_eq_true_eq] at hc
    have hw : wr .i64 (wr .u8 ((s[i].toNat : Int) - 48)) = ((s[i].toNat - 48 : Nat) : Int) := by
     rw [wr_u8, wr_i64, Int.emod_eq_of_lt (by omega) (by omega), wi_id (by omega) (by omega)]
     omega
    rw [if_pos rfl, if_pos rfl, Option.bind_some, hw, wi_id (n := 10 * (k : Int)) (by omega) (by omega), wi_id (by omega) (by omega), show 10 * (k : Int) + ((s[i].toNat - 48 : Nat) : Int) = ((10 * k + (s[i].toNat - 48) : Nat) : Int) by omega]
    exact num_l1 s b hl K N (i + 1) _ (by omega) (by omega) (by rw [Nat.pow_succ]; omega)
   | false =>
    rw [if_neg (by simp), if_neg (by simp)]
    exact num_l1 s b hl K N (i + 1) k (by omega) (by omega) (by rw [Nat.pow_succ]; omega)
  ·rw [if_neg (by simp only [decide_eq_true_eq]; omega), List.drop_of_length_le (by omega)]
   rfl
theorem ok_itoa {n : Int} (h : InR n) : okAt (Lib.itoa n) 0 = true ∧ (if (Lib.itoa n).head? = some 45 then -((valD 0 (Lib.itoa n) : Nat) : Int) else ((valD 0 (Lib.itoa n) : Nat) : Int)) = n := by
 unfold Lib.itoa
 split
 ·have hv : valD 0 (45 :: Lib.decDigits n.natAbs) = valD 0 (Lib.decDigits n.natAbs) := rfl
  refine ⟨?_, ?_⟩
  ·unfold okAt
   simp [dec_digits]
  ·rw [if_pos (show (45 :: Lib.decDigits n.natAbs).head? = some 45 from rfl), hv, valD_dec]
   omega
 ·refine ⟨?_, ?_⟩
  ·unfold okAt
   rw [List.drop_zero, dec_digits]
   rfl
  ·rw [if_neg ?_, valD_dec]
   ·omega
   ·intro hh
    cases hd : Lib.decDigits n.toNat with
    | nil => exact absurd hd (dec_ne _)
    | cons c r =>
     have := dec_head hd
     rw [hd] at hh
     cases hh
     revert this
     decide
theorem numIn_core (s : List UInt8) : ∃ k, (if ((!true) || (decide (8 < (s.length : Int)))) then some (0, false) else lim fun kk1 => Z7 (s, true) (fun (_ : Unit) => lim fun kk => Zg (s, true) (fun (k_1 : Int) => if decide (0 < (s.length : Int)) then (at? s 0).bind fun c_4 => Zn (s, true) k_1 (decide ((c_4.toNat : Int) = 45)) else Zn (s, true) k_1 false) kk 0 0) kk1 0) = some (k, (tnum s).isSome) ∧ ∀ n, tnum s = some n → k = n := by
 by_cases h8 : 8 < s.length
 ·rw [if_pos (by simp; omega)]
  have : tnum s = none := by
   cases ht : tnum s with
   | none => rfl
   | some n =>
    obtain ⟨h1, h2⟩ := tnum_some.1 ht
    have := itoa_len h1
    rw [← h2] at this
    omega
  rw [this]
  exact ⟨0, rfl, fun n hn => by cases hn⟩
 ·rw [if_neg (by simp; omega)]
  have hl : s.length ≤ 8 := by omega
  have hv := valD_lt s 0 0 (by omega)
  have hv8 : valD 0 s < 10 ^ 8 := Nat.lt_of_lt_of_le hv (Nat.pow_le_pow_right (by omega) (by omega))
  obtain ⟨q, hq⟩ : ∃ q : Int, q = if s.head? = some 45 then -((valD 0 s : Nat) : Int) else ((valD 0 s : Nat) : Int) := ⟨_, rfl⟩
  have hqr : -100000000 ≤ q ∧ q ≤ 100000000 := by rw [hq]; split <;> omega
  have inner : (lim fun kk => Zg (s, true) (fun (k_1 : Int) => if decide (0 < (s.length : Int)) then (at? s 0).bind fun c_4 => Zn (s, true) k_1 (decide ((c_4.toNat : Int) = 45)) else Zn (s, true) k_1 false) kk 0 0) = some (q, ((decide (Lib.itoa q = s) && decide (-1000000 ≤ q)) && decide (q ≤ 1000000))) := by
   refine lim_eq (s.length + 1) fun k hk => ?_
   refine (num_l1 s true hl _ k 0 0 (by omega) (by omega) (by omega)).trans ?_
   rw [List.drop_zero]
   have j9 : ∀ z : Int, -100000000 ≤ z ∧ z ≤ 100000000 → Z25 (s, true) z = some (z, ((decide (Lib.itoa z = s) && decide (-1000000 ≤ z)) && decide (z ≤ 1000000))) := by
    intro z hz
    unfold Z25
    rw [signed_eq z (by omega) (by omega), Option.bind_some]
   unfold Zn
   cases s with
   | nil =>
    rw [if_neg (by simp), if_neg (by simp)]
    have : q = ((valD 0 [] : Nat) : Int) := by rw [hq, if_neg (by simp)]
    rw [← this]
    exact j9 q hqr
   | cons c r =>
    have a0 : at? (c :: r) 0 = some c := rfl
    rw [if_pos (by simp), a0, Option.bind_some]
    by_cases h45 : c = 45
    ·have e1 : q = -((valD 0 (c :: r) : Nat) : Int) := by rw [hq, if_pos (by rw [h45]; rfl)]
     rw [if_pos (by rw [h45]; rfl), wi_id (by omega) (by omega), show 0 - ((valD 0 (c :: r) : Nat) : Int) = q by omega]
     exact j9 q hqr
    ·have e1 : q = ((valD 0 (c :: r) : Nat) : Int) := by rw [hq, if_neg (by simpa using h45)]
     have : ¬ ((c.toNat : Int) = 45) := fun hh => h45 (UInt8.toNat_inj.1 (by have : (45 : UInt8).toNat = 45 := rfl; omega))
     rw [if_neg (by simpa using this), ← e1]
     exact j9 q hqr
  have outer : (lim fun kk1 => Z7 (s, true) (fun (_ : Unit) => lim fun kk => Zg (s, true) (fun (k_1 : Int) => if decide (0 < (s.length : Int)) then (at? s 0).bind fun c_4 => Zn (s, true) k_1 (decide ((c_4.toNat : Int) = 45)) else Zn (s, true) k_1 false) kk 0 0) kk1 0) = if okAt s 0 then some (q, ((decide (Lib.itoa q = s) && decide (-1000000 ≤ q)) && decide (q ≤ 1000000))) else some (0, false) := by
   refine lim_eq (s.length + 1) fun k hk => ?_
   refine (num_l0 s true hl _ k 0 (by omega) (by omega)).trans ?_
   rw [inner]
  rw [outer]
  cases ht : tnum s with
  | some n =>
   obtain ⟨hn, e1⟩ := tnum_some.1 ht
   obtain ⟨o1, o2⟩ := ok_itoa hn
   rw [← e1] at o1 o2
   rw [← hq] at o2
   rw [if_pos o1, o2]
   refine ⟨n, ?_, fun m hm => by cases hm; rfl⟩
   have h1 := hn.1; have h2 := hn.2
   simp [← e1, h1, h2]
  | none =>
   cases ho : okAt s 0 with
   | false => exact ⟨0, by simp, fun n hn => by cases hn⟩
   | true =>
    refine ⟨q, ?_, fun n hn => by cases hn⟩
    rw [if_pos rfl]
    have : ((decide (Lib.itoa q = s) && decide (-1000000 ≤ q)) && decide (q ≤ 1000000)) = false := by
     cases hc : ((decide (Lib.itoa q = s) && decide (-1000000 ≤ q)) && decide (q ≤ 1000000)) with
     | false => rfl
     | true =>
      simp only [Bool.and_eq_true, decide_eq_true_eq] at hc
      exact absurd hc.1.1 (tnum_none ht q ⟨hc.1.2, hc.2⟩)
    rw [this]
    rfl
theorem numIn_eq {d : TDoc} {i : Nat} (hi : i < d.Nodes.length) (h : Ze d.Nodes[i] = some 0) (name : List UInt8) : ∃ k, Z26 d (i : Int) name = some (k, (numT d.Nodes[i] name).isSome) ∧ ∀ n, numT d.Nodes[i] name = some n → k = n := by
 have h12 := attr_len h
 unfold Z26 Z3g
 have e : lim (fun kk => Zt d.Nodes[i] name (fun _ => some ([], false)) kk 0) = some (match d.Nodes[i].Attrs.find? (named name) with | some a => (a.Value, true) | none => ([], false)) := by
  refine lim_eq (d.Nodes[i].Attrs.length + 1) fun k hk => ?_
  have := attrOf_loop d.Nodes[i] name h12 k 0 (by omega) (by omega)
  rw [List.drop_zero] at this
  exact this
 rw [at_some hi, Option.bind_some, e, Option.bind_some]
 unfold numT
 cases hf : d.Nodes[i].Attrs.find? (named name) with
 | none =>
  rw [if_pos (by simp)]
  exact ⟨0, rfl, fun n hn => by cases hn⟩
 | some a =>
  exact numIn_core a.Value
end Go.Proofs.YtaejmblphhjccaaGreatDoorBv
/- The numbers of a document's items. No program is in sight. -/
namespace Go.Proofs.YtaejmblphhjccaaGreatDoorBv
open Go
set_option linter.unusedSimpArgs false
set_option linter.unusedVariables false
abbrev VAL : List UInt8 := [118, 97, 108, 117, 101]
abbrev STA : List UInt8 := [115, 116, 97, 114, 116]
def itB (d : TDoc) (l : List (Ar59 TVal)) (n : Nat) : Bool := match d.Nodes[n]?, l[n]? with
 | some x, some s => decide (x.Kind = 2) && (decide (s.a0.Kind = 1) && decide (s.a0.N = 8))
 | _, _ => false
theorem item_eq {d : TDoc} {l : List (Ar59 TVal)} (hl : l.length = d.Nodes.length) {n : Nat} (h : n < d.Nodes.length) : Zx d l (n : Int) = some (itB d l n) ∧ Z12 d l (n : Int) = some (itB d l n) := by
 have h2 : n < l.length := by omega
 unfold Zx Z12 Z3e Z2o Z2p itB
 rw [at_some h, at_some h2, List.getElem?_eq_getElem h, List.getElem?_eq_getElem h2]
 simp only [Option.bind_some]
 by_cases hk : d.Nodes[n].Kind = 2
 ·simp [hk]
 ·simp [hk]
noncomputable def valN (d : TDoc) (n : Nat) : Option Int := (d.Nodes[n]?).bind fun x => numT x VAL
noncomputable def staN (d : TDoc) (p : Nat) : Int := ((d.Nodes[p]?).bind fun x => numT x STA).getD 1
noncomputable def stepN (d : TDoc) (l : List (Ar59 TVal)) (nx : Int) (k : Int) : Int := if itB d l k.toNat then mn ((valN d k.toNat).getD nx + 1) 1000000 else nx
noncomputable def nxtN (d : TDoc) (l : List (Ar59 TVal)) (p : Nat) (L : List Int) : Int := L.foldl (stepN d l) (staN d p)
def kidsN (d : TDoc) (p : Nat) : List Int := match d.Nodes[p]? with | some x => x.Kids | none => []
def parN (d : TDoc) (n : Nat) : Int := match d.Nodes[n]? with | some x => x.Parent | none => -1
noncomputable def numS (d : TDoc) (l : List (Ar59 TVal)) (n : Nat) : Int :=
 if itB d l n then (valN d n).getD (if parN d n < 0 then 1 else nxtN d l (parN d n).toNat ((kidsN d (parN d n).toNat).takeWhile fun k => decide (k ≠ (n : Int)))) else 0
theorem numT_range {x : TNode} {name : List UInt8} {n : Int} (h : numT x name = some n) : InR n := by
 unfold numT at h
 obtain ⟨a, _, h⟩ := Option.bind_eq_some_iff.1 h
 exact (tnum_some.1 h).1
theorem val_range (d : TDoc) (n : Nat) {k : Int} (h : valN d n = some k) : InR k := by
 unfold valN at h
 obtain ⟨a, _, h⟩ := Option.bind_eq_some_iff.1 h
 exact numT_range h
theorem sta_range (d : TDoc) (p : Nat) : InR (staN d p) := by
 unfold staN
 cases h : (d.Nodes[p]?).bind fun x => numT x STA with
 | none => exact ⟨by decide, by decide⟩
 | some k =>
  obtain ⟨a, _, h⟩ := Option.bind_eq_some_iff.1 h
  exact numT_range h
theorem getD_range (d : TDoc) (n : Nat) {nx : Int} (h : InR nx) : InR ((valN d n).getD nx) := by
 cases hv : valN d n with
 | none => exact h
 | some k => exact val_range d n hv
theorem step_range (d : TDoc) (l : List (Ar59 TVal)) {nx : Int} (k : Int) (h : InR nx) : InR (stepN d l nx k) := by
 unfold stepN
 split
 ·have := getD_range d k.toNat h
  obtain ⟨h1, h2⟩ := this
  unfold mn InR
  split <;> omega
 ·exact h
theorem fold_range (d : TDoc) (l : List (Ar59 TVal)) : ∀ (L : List Int) (nx : Int), InR nx → InR (L.foldl (stepN d l) nx)
 | [], nx, h => h
 | k :: r, nx, h => fold_range d l r _ (step_range d l k h)
theorem nxt_range (d : TDoc) (l : List (Ar59 TVal)) (p : Nat) (L : List Int) : InR (nxtN d l p L) := fold_range d l L _ (sta_range d p)
theorem num_range (d : TDoc) (l : List (Ar59 TVal)) (n : Nat) : InR (numS d l n) := by
 unfold numS
 split
 ·refine getD_range d n ?_
  split
  ·exact ⟨by decide, by decide⟩
  ·exact nxt_range d l _ _
 ·exact ⟨by decide, by decide⟩
/-! ### the program's numbers -/
theorem fn1_eq {d : TDoc} (hd : DocOK d) {n : Nat} (h : n < d.Nodes.length) (q : Bool) {nx : Int} (hn : InR nx) (out : List Int) (ho : out.length = d.Nodes.length) :
  Z20 (n : Int) nx d.Nodes q out = some (mn ((valN d n).getD nx + 1) 1000000, out.set n ((valN d n).getD nx)) := by
 have hv : valN d n = numT d.Nodes[n] VAL := by unfold valN; rw [List.getElem?_eq_getElem h]; rfl
 have hr := getD_range d n hn
 obtain ⟨r1, r2⟩ := hr
 unfold Z20
 rw [at_some h, Option.bind_some, told_eq (hd.one n h).1, Option.bind_some]
 have j1 : ∀ z : Int, InR z → Z1z (n : Int) z out = some (mn (z + 1) 1000000, out.set n z) := by
  intro z hz
  obtain ⟨z1, z2⟩ := hz
  unfold Z1z
  rw [at_some (show n < out.length by omega), Option.bind_some, wi_id (by omega) (by omega), Int.toNat_natCast]
 cases hh : numT d.Nodes[n] VAL with
 | some k =>
  rw [hh] at hv
  rw [hv] at r1 r2 ⊢
  simp only [if_true, Option.getD_some] at r1 r2 ⊢
  exact j1 k ⟨r1, r2⟩
 | none =>
  rw [hh] at hv
  rw [hv]
  simp only [Option.getD_none]
  rw [if_neg (by simp)]
  exact j1 nx hn
theorem tw_take {L : List Int} (hnd : L.Nodup) {j : Nat} (h : j < L.length) : L.takeWhile (fun k => decide (k ≠ L[j])) = L.take j := by
 have e : L = L.take j ++ L[j] :: L.drop (j + 1) := by rw [← List.drop_eq_getElem_cons h, List.take_append_drop]
 have hn : ∀ x, x ∈ L.take j → x ≠ L[j] := by
  intro x hx hxe
  have hnd2 := hnd
  rw [e] at hnd2
  rw [List.nodup_append] at hnd2
  exact hnd2.2.2 x hx L[j] (List.mem_cons_self ..) hxe
 generalize hz : L[j] = z at hn e ⊢
 generalize hA : L.take j = A at hn e ⊢
 generalize L.drop (j + 1) = B at e
 rw [e, List.takeWhile_append_of_pos (by intro x hx; simpa using hn x hx)]
 simp
noncomputable def doneB (d : TDoc) (p j n : Nat) : Prop := (parN d n < 0 ∧ n < p) ∨ (0 ≤ parN d n ∧ parN d n < (p : Int)) ∨ (parN d n = (p : Int) ∧ (n : Int) ∈ (kidsN d p).take j)
open Classical in
noncomputable def InvN (d : TDoc) (l : List (Ar59 TVal)) (p j : Nat) (out : List Int) : Prop := out.length = d.Nodes.length ∧ ∀ n, n < d.Nodes.length → out[n]? = some (if doneB d p j n then numS d l n else 0)
theorem inner (d : TDoc) (l : List (Ar59 TVal)) (hd : DocOK d) (hf : Full d) (hll : l.length = d.Nodes.length) (p : Nat) (hp : p < d.Nodes.length) (hk : d.Nodes[p].Kids.length ≤ 140737488355328) (K : List Int → Option (List Int)) : ∀ (c j : Nat) (out : List Int), j + c = d.Nodes[p].Kids.length → InvN d l p j out →
  ∃ out', InvN d l p d.Nodes[p].Kids.length out' ∧ ∀ m, Zc d.Nodes[p] d l (p : Int) K (m + c + 1) out (nxtN d l p (d.Nodes[p].Kids.take j)) (j : Int) = K out'
 | 0, j, out, hj, hI => by
  obtain rfl : j = d.Nodes[p].Kids.length := by omega
  refine ⟨out, hI, fun m => ?_⟩
  rw [Zc, if_neg (by simp)]
 | c + 1, j, out, hj, hI => by
  have h : j < d.Nodes[p].Kids.length := by omega
  have hkids : kidsN d p = d.Nodes[p].Kids := by unfold kidsN; rw [List.getElem?_eq_getElem hp]
  obtain ⟨q, hq, hql, hqp⟩ := hd.kids p hp hp _ (List.getElem_mem h)
  have hpq : parN d q = (p : Int) := by unfold parN; rw [List.getElem?_eq_getElem hql]; exact hqp
  have htk : d.Nodes[p].Kids.take (j + 1) = d.Nodes[p].Kids.take j ++ [(q : Int)] := by rw [List.take_add_one, List.getElem?_eq_getElem h, hq]; rfl
  have hnx : nxtN d l p (d.Nodes[p].Kids.take (j + 1)) = stepN d l (nxtN d l p (d.Nodes[p].Kids.take j)) (q : Int) := by rw [htk]; unfold nxtN; rw [List.foldl_append]; rfl
  have hnot : ¬ doneB d p j q := by
   rintro (⟨h1, _⟩ | ⟨_, h1⟩ | ⟨_, h1⟩)
   ·omega
   ·omega
   ·rw [hkids] at h1
    have hnd := hf.nodup p hp
    have e : d.Nodes[p].Kids = d.Nodes[p].Kids.take j ++ (q : Int) :: d.Nodes[p].Kids.drop (j + 1) := by rw [← hq, ← List.drop_eq_getElem_cons h, List.take_append_drop]
    rw [e, List.nodup_append] at hnd
    exact hnd.2.2 _ h1 _ (List.mem_cons_self ..) rfl
  have hdone : ∀ n, n ≠ q → (doneB d p (j + 1) n ↔ doneB d p j n) := by
   intro n hn
   unfold doneB
   rw [hkids, htk]
   simp only [List.mem_append, List.mem_singleton]
   constructor
   ·rintro (h1 | h1 | ⟨h1, h2 | h2⟩)
    ·exact .inl h1
    ·exact .inr (.inl h1)
    ·exact .inr (.inr ⟨h1, h2⟩)
    ·exact absurd (by omega) hn
   ·rintro (h1 | h1 | ⟨h1, h2⟩)
    ·exact .inl h1
    ·exact .inr (.inl h1)
    ·exact .inr (.inr ⟨h1, .inl h2⟩)
  have hdq : doneB d p (j + 1) q := .inr (.inr ⟨hpq, by rw [hkids, htk]; simp⟩)
  have hrng := nxt_range d l p (d.Nodes[p].Kids.take j)
  have hw : wi ((j : Int) + 1) = ((j + 1 : Nat) : Int) := by rw [wi_id (by omega) (by omega)]; omega
  have hnum : itB d l q = true → numS d l q = (valN d q).getD (nxtN d l p (d.Nodes[p].Kids.take j)) := by
   intro hi
   unfold numS
   have htw := tw_take (hf.nodup p hp) h
   rw [hq] at htw
   rw [if_pos hi, hpq, if_neg (by omega), Int.toNat_natCast, hkids, htw]
  have go : ∀ out2 nx2, InvN d l p (j + 1) out2 → nx2 = nxtN d l p (d.Nodes[p].Kids.take (j + 1)) → ∃ out', InvN d l p d.Nodes[p].Kids.length out' ∧ ∀ m, Z21 (j : Int) l (p : Int) d d.Nodes[p] (Zc d.Nodes[p] d l (p : Int) K (m + c + 1)) K out2 nx2 = K out' := by
   intro out2 nx2 hI2 hn2
   obtain ⟨out', a1, a2⟩ := inner d l hd hf hll p hp hk K c (j + 1) out2 (by omega) hI2
   refine ⟨out', a1, fun m => ?_⟩
   unfold Z21
   rw [hw, hn2]
   exact a2 m
  cases hi : itB d l q with
  | true =>
   have hI2 : InvN d l p (j + 1) (out.set q ((valN d q).getD (nxtN d l p (d.Nodes[p].Kids.take j)))) := by
    refine ⟨by rw [List.length_set]; exact hI.1, fun n hn => ?_⟩
    by_cases e : n = q
    ·subst e
     rw [List.getElem?_set_self (by rw [hI.1]; exact hn), if_pos hdq, hnum hi]
    ·rw [List.getElem?_set_ne (Ne.symm e), hI.2 n hn]
     by_cases hb : doneB d p j n
     ·rw [if_pos hb, if_pos ((hdone n e).2 hb)]
     ·rw [if_neg hb, if_neg (fun hx => hb ((hdone n e).1 hx))]
   obtain ⟨out', a1, a2⟩ := go _ (mn ((valN d q).getD (nxtN d l p (d.Nodes[p].Kids.take j)) + 1) 1000000) hI2 (by rw [hnx]; unfold stepN; rw [Int.toNat_natCast, if_pos hi])
   refine ⟨out', a1, fun m => ?_⟩
   rw [Zc, if_pos (by simp only [decide_eq_true_eq]; omega), at_some h, hq, Option.bind_some, (item_eq hll hql).1, hi, Option.bind_some, if_pos rfl, fn1_eq hd hql _ hrng out hI.1, Option.bind_some]
   exact a2 m
  | false =>
   have hI2 : InvN d l p (j + 1) out := by
    refine ⟨hI.1, fun n hn => ?_⟩
    by_cases e : n = q
    ·subst e
     rw [hI.2 n hn, if_neg hnot, if_pos hdq]
     unfold numS
     rw [if_neg (by simp [hi])]
    ·rw [hI.2 n hn]
     by_cases hb : doneB d p j n
     ·rw [if_pos hb, if_pos ((hdone n e).2 hb)]
     ·rw [if_neg hb, if_neg (fun hx => hb ((hdone n e).1 hx))]
   obtain ⟨out', a1, a2⟩ := go _ (nxtN d l p (d.Nodes[p].Kids.take j)) hI2 (by rw [hnx]; unfold stepN; rw [Int.toNat_natCast, if_neg (by simp [hi])])
   refine ⟨out', a1, fun m => ?_⟩
   rw [Zc, if_pos (by simp only [decide_eq_true_eq]; omega), at_some h, hq, Option.bind_some, (item_eq hll hql).1, hi, Option.bind_some, if_neg (by simp)]
   exact a2 m
theorem outer (d : TDoc) (l : List (Ar59 TVal)) (hd : DocOK d) (hf : Full d) (hll : l.length = d.Nodes.length) (hk : ∀ x, x ∈ d.Nodes → x.Kids.length ≤ 140737488355328) (K : List Int → Option (List Int)) : ∀ (c p : Nat) (out : List Int), p + c = d.Nodes.length → InvN d l p 0 out →
  ∃ out', InvN d l d.Nodes.length 0 out' ∧ ∀ m, Zd d l K (m + c + 1) out (p : Int) = K out'
 | 0, p, out, hp, hI => by
  obtain rfl : p = d.Nodes.length := by omega
  refine ⟨out, hI, fun m => ?_⟩
  rw [Zd, if_neg (by simp)]
 | c + 1, p, out, hp, hI => by
  have h200 := hd.many
  have h : p < d.Nodes.length := by omega
  have hkp := hk _ (List.getElem_mem h)
  have hkids : kidsN d p = d.Nodes[p].Kids := by unfold kidsN; rw [List.getElem?_eq_getElem h]
  have hparp : parN d p = d.Nodes[p].Parent := by unfold parN; rw [List.getElem?_eq_getElem h]
  have hsta : staN d p = (numT d.Nodes[p] STA).getD 1 := by unfold staN; rw [List.getElem?_eq_getElem h]; rfl
  have hw : wi ((p : Int) + 1) = ((p + 1 : Nat) : Int) := by rw [wi_id (by omega) (by omega)]; omega
  -- behind the kids
  obtain ⟨out1, b1, b2⟩ : ∃ out1, InvN d l p d.Nodes[p].Kids.length out1 ∧ ∀ K2 m, Zc d.Nodes[p] d l (p : Int) K2 (m + d.Nodes[p].Kids.length + 1) out (staN d p) 0 = K2 out1 := by
   have hin := fun K2 => inner d l hd hf hll p h hkp K2 d.Nodes[p].Kids.length 0 out (by omega) hI
   obtain ⟨o1, c1, c2⟩ := hin (fun o => some o)
   refine ⟨o1, c1, fun K2 m => ?_⟩
   obtain ⟨o2, d1, d2⟩ := hin K2
   have : o2 = o1 := by
    refine List.ext_getElem? fun n => ?_
    by_cases hn : n < d.Nodes.length
    ·rw [d1.2 n hn, c1.2 n hn]
    ·rw [List.getElem?_eq_none (by rw [d1.1]; omega), List.getElem?_eq_none (by rw [c1.1]; omega)]
   subst this
   exact d2 m
  have hroot : ∃ out2, InvN d l (p + 1) 0 out2 ∧ (∀ self : List Int → Int → Option (List Int), (if decide (d.Nodes[p].Parent < 0) then (Zx d l (p : Int)).bind fun r_4 => Zm (p : Int) d l self K out1 r_4 else Zm (p : Int) d l self K out1 false) = self out2 ((p + 1 : Nat) : Int)) := by
   have hmore : ∀ n, n < d.Nodes.length → n ≠ p → (doneB d (p + 1) 0 n ↔ doneB d p d.Nodes[p].Kids.length n) := by
    intro n hn hne
    unfold doneB
    rw [hkids, List.take_length, List.take_zero]
    constructor
    ·rintro (⟨h1, h2⟩ | ⟨h1, h2⟩ | ⟨_, h2⟩)
     ·exact .inl ⟨h1, by omega⟩
     ·by_cases he : parN d n = (p : Int)
      ·refine .inr (.inr ⟨he, ?_⟩)
       rcases hf.kid n hn with h3 | ⟨p2, hp2, h3⟩
       ·unfold parN at he
        rw [List.getElem?_eq_getElem hn] at he
        simp only at he
        omega
       ·obtain ⟨j, hj, hjl, hjp⟩ := hd.kids p2 hp2 hp2 _ h3
        obtain rfl : n = j := by omega
        unfold parN at he
        rw [List.getElem?_eq_getElem hn] at he
        simp only at he
        obtain rfl : p2 = p := by omega
        exact h3
      ·exact .inr (.inl ⟨h1, by omega⟩)
     ·cases h2
    ·rintro (⟨h1, h2⟩ | ⟨h1, h2⟩ | ⟨h1, h2⟩)
     ·exact .inl ⟨h1, by omega⟩
     ·exact .inr (.inl ⟨h1, by omega⟩)
     ·exact .inr (.inl ⟨by omega, by omega⟩)
   have self0 : ∀ n, n < d.Nodes.length → parN d n = (p : Int) → n ≠ p := by
    intro n hn he hnp
    subst hnp
    obtain ⟨k, hk'⟩ := hgt_of hd n hn
    have loop : ∀ k, ¬ Hgt d k n := by
     intro k
     induction k with
     | zero =>
      rintro ⟨h1, h2⟩
      rw [hparp] at he
      omega
     | succ k ih =>
      rintro ⟨h1, j, h2, h3⟩
      rw [hparp] at he
      obtain rfl : j = n := by omega
      exact ih h3
    exact loop k hk'
   by_cases hneg : d.Nodes[p].Parent < 0
   ·have hnp : ¬ doneB d p d.Nodes[p].Kids.length p := by
     rintro (⟨_, h2⟩ | ⟨h1, _⟩ | ⟨h1, _⟩) <;> omega
    have hdp : doneB d (p + 1) 0 p := .inl ⟨by omega, by omega⟩
    cases hi : itB d l p with
    | true =>
     refine ⟨out1.set p ((valN d p).getD 1), ⟨by rw [List.length_set]; exact b1.1, fun n hn => ?_⟩, fun self => ?_⟩
     ·by_cases e : n = p
      ·subst e
       rw [List.getElem?_set_self (by rw [b1.1]; exact hn), if_pos hdp]
       unfold numS
       rw [if_pos hi, hparp, if_pos hneg]
      ·rw [List.getElem?_set_ne (Ne.symm e), b1.2 n hn]
       by_cases hb : doneB d p d.Nodes[p].Kids.length n
       ·rw [if_pos hb, if_pos ((hmore n hn e).2 hb)]
       ·rw [if_neg hb, if_neg (fun hx => hb ((hmore n hn e).1 hx))]
     ·rw [if_pos (by simpa using hneg), (item_eq hll h).1, hi, Option.bind_some]
      unfold Zm Z1i
      rw [if_pos rfl, fn1_eq hd h _ ⟨by decide, by decide⟩ out1 b1.1, Option.bind_some, hw]
    | false =>
     refine ⟨out1, ⟨b1.1, fun n hn => ?_⟩, fun self => ?_⟩
     ·by_cases e : n = p
      ·subst e
       rw [b1.2 n hn, if_neg hnp, if_pos hdp]
       unfold numS
       rw [if_neg (by simp [hi])]
      ·rw [b1.2 n hn]
       by_cases hb : doneB d p d.Nodes[p].Kids.length n
       ·rw [if_pos hb, if_pos ((hmore n hn e).2 hb)]
       ·rw [if_neg hb, if_neg (fun hx => hb ((hmore n hn e).1 hx))]
     ·rw [if_pos (by simpa using hneg), (item_eq hll h).1, hi, Option.bind_some]
      unfold Zm Z1i
      rw [if_neg (by simp), hw]
   ·refine ⟨out1, ⟨b1.1, fun n hn => ?_⟩, fun self => ?_⟩
    ·by_cases e : n = p
     ·subst e
      rw [b1.2 n hn]
      have hb : doneB d (n + 1) 0 n ↔ doneB d n d.Nodes[n].Kids.length n := by
       unfold doneB
       rw [List.take_zero]
       constructor
       ·rintro (⟨h1, h2⟩ | ⟨h1, h2⟩ | ⟨_, h2⟩)
        ·omega
        ·by_cases he : parN d n = (n : Int)
         ·exact absurd rfl (self0 n hn he)
         ·exact .inr (.inl ⟨h1, by omega⟩)
        ·cases h2
       ·rintro (⟨h1, h2⟩ | ⟨h1, h2⟩ | ⟨h1, h2⟩)
        ·omega
        ·exact .inr (.inl ⟨h1, by omega⟩)
        ·exact absurd rfl (self0 n hn h1)
      by_cases hx : doneB d n d.Nodes[n].Kids.length n
      ·rw [if_pos hx, if_pos (hb.2 hx)]
      ·rw [if_neg hx, if_neg (fun hy => hx (hb.1 hy))]
     ·rw [b1.2 n hn]
      by_cases hb : doneB d p d.Nodes[p].Kids.length n
      ·rw [if_pos hb, if_pos ((hmore n hn e).2 hb)]
      ·rw [if_neg hb, if_neg (fun hx => hb ((hmore n hn e).1 hx))]
    ·rw [if_neg (by simpa using hneg)]
     unfold Zm Z1i
     rw [if_neg (by simp), hw]
  obtain ⟨out2, e1, e2⟩ := hroot
  obtain ⟨out', f1, f2⟩ := outer d l hd hf hll hk K c (p + 1) out2 (by omega) e1
  refine ⟨out', f1, fun m => ?_⟩
  have j44 : Z22 d.Nodes[p] d l (p : Int) (Zd d l K (m + c + 1)) K out (staN d p) = K out' := by
   unfold Z22
   refine lim_add (d.Nodes[p].Kids.length + 1) fun q => ?_
   have := b2 (fun (out5 : List Int) => if decide (d.Nodes[p].Parent < 0) then (Zx d l (p : Int)).bind fun r_4 => Zm (p : Int) d l (Zd d l K (m + c + 1)) K out5 r_4 else Zm (p : Int) d l (Zd d l K (m + c + 1)) K out5 false) q
   refine this.trans ?_
   rw [e2]
   exact f2 m
  rw [Zd, if_pos (by simp only [decide_eq_true_eq]; omega), at_some h, Option.bind_some, told_eq (hd.one p h).1, Option.bind_some, show m + (c + 1) = m + c + 1 by omega]
  cases hs : numT d.Nodes[p] STA with
  | some k =>
   rw [hs] at hsta
   simp only [Option.getD_some] at hsta
   simp only
   rw [if_neg (by simp), ← hsta]
   exact j44
  | none =>
   rw [hs] at hsta
   simp only [Option.getD_none] at hsta
   simp only
   rw [if_pos (by simp), ← hsta]
   exact j44
theorem numbers_eq {d : TDoc} {l : List (Ar59 TVal)} (hd : DocOK d) (hf : Full d) (hll : l.length = d.Nodes.length) (hk : ∀ x, x ∈ d.Nodes → x.Kids.length ≤ 140737488355328) : ∃ out, Z23 d l = some out ∧ out.length = d.Nodes.length ∧ ∀ n, n < d.Nodes.length → out[n]? = some (numS d l n) := by
 have h200 := hd.many
 unfold Z23
 rw [mkl_some (by omega) (Int.le_refl _) (by omega) (by omega), Option.bind_some, Int.toNat_natCast]
 have h0 : InvN d l 0 0 (List.replicate d.Nodes.length 0) := by
  refine ⟨by simp, fun n hn => ?_⟩
  rw [List.getElem?_replicate, if_pos hn, if_neg ?_]
  rintro (⟨_, h⟩ | ⟨h1, h2⟩ | ⟨_, h2⟩)
  ·omega
  ·omega
  ·rw [List.take_zero] at h2; cases h2
 obtain ⟨out, a1, a2⟩ := outer d l hd hf hll hk (fun out1 => some out1) d.Nodes.length 0 _ (by omega) h0
 refine ⟨out, lim_add (d.Nodes.length + 1) fun m => a2 m, a1.1, fun n hn => ?_⟩
 rw [a1.2 n hn, if_pos ?_]
 by_cases hneg : parN d n < 0
 ·exact .inl ⟨hneg, hn⟩
 ·refine .inr (.inl ⟨by omega, ?_⟩)
  have hp := hd.par n hn
  unfold parN at hneg ⊢
  rw [List.getElem?_eq_getElem hn] at hneg ⊢
  simp only at hneg ⊢
  omega
/-! ### the document's number -/
theorem ahead_loop (d : TDoc) (l : List (Ar59 TVal)) (hd : DocOK d) (hll : l.length = d.Nodes.length) (p : Nat) (hp : p < d.Nodes.length) (x : TNode) (hx : x.Parent = (p : Int)) (n : Nat) (hk : d.Nodes[p].Kids.length ≤ 140737488355328) (K : Int → Option Int) : ∀ (N j : Nat) (ah : Int), d.Nodes[p].Kids.length - j < N → j ≤ d.Nodes[p].Kids.length →
  Zo d x l (n : Int) K N ah (j : Int) = K ((((d.Nodes[p].Kids.drop j).takeWhile fun k => decide (k ≠ (n : Int))).filter fun k => itB d l k.toNat).getLast?.getD ah)
 | 0, j, ah, hN, hj => by omega
 | N + 1, j, ah, hN, hj => by
  have ax : at? d.Nodes x.Parent = some d.Nodes[p] := by rw [hx]; exact at_some hp
  rw [Zo, ax, Option.bind_some]
  by_cases h : j < d.Nodes[p].Kids.length
  ·obtain ⟨q, hq, hql, hqp⟩ := hd.kids p hp hp _ (List.getElem_mem h)
   have hw : wi ((j : Int) + 1) = ((j + 1 : Nat) : Int) := by rw [wi_id (by omega) (by omega)]; omega
   rw [if_pos (by simp only [decide_eq_true_eq]; omega), Option.bind_some, at_some h, Option.bind_some, List.drop_eq_getElem_cons h, List.takeWhile_cons]
   unfold Z27 Z2r
   by_cases he : d.Nodes[p].Kids[j] = (n : Int)
   ·rw [if_neg (by simpa using he), if_neg (by simpa using he)]
    rfl
   ·rw [if_pos (by simpa using he), if_pos (by simpa using he), ax, Option.bind_some, at_some h, Option.bind_some, hq, (item_eq hll hql).2, Option.bind_some, List.filter_cons, Int.toNat_natCast, hw]
    cases hi : itB d l q with
    | true =>
     rw [if_pos rfl, if_pos rfl, Option.bind_some, at_some h, Option.bind_some, hq, ahead_loop d l hd hll p hp x hx n hk K N (j + 1) _ (by omega) (by omega)]
     congr 1
     rw [List.getLast?_cons]
     simp
    | false =>
     rw [if_neg (by simp), if_neg (by simp)]
     exact ahead_loop d l hd hll p hp x hx n hk K N (j + 1) _ (by omega) (by omega)
  ·unfold Z27
   rw [if_neg (by simp only [decide_eq_true_eq]; omega), if_neg (by simp), List.drop_of_length_le (by omega)]
   rfl
theorem fold_items (d : TDoc) (l : List (Ar59 TVal)) : ∀ (L : List Int) (nx : Int), L.foldl (stepN d l) nx = (L.filter fun k => itB d l k.toNat).foldl (stepN d l) nx
 | [], nx => rfl
 | k :: r, nx => by
  rw [List.foldl_cons, List.filter_cons]
  cases hi : itB d l k.toNat with
  | true => rw [if_pos rfl, List.foldl_cons]; exact fold_items d l r _
  | false =>
   rw [if_neg (by simp)]
   have : stepN d l nx k = nx := by unfold stepN; rw [if_neg (by simp [hi])]
   rw [this]
   exact fold_items d l r _
theorem filter_last {p : Int → Bool} {L : List Int} {a : Int} (h : (L.filter p).getLast? = some a) : p a = true ∧ ∃ A B, L = A ++ a :: B ∧ B.filter p = [] := by
 induction L with
 | nil => cases h
 | cons x r ih =>
  rw [List.filter_cons] at h
  by_cases hr : r.filter p = []
  ·split at h
   ·rename_i hx
    rw [hr] at h
    cases h
    exact ⟨hx, [], r, rfl, hr⟩
   ·rw [hr] at h; cases h
  ·have h2 : (r.filter p).getLast? = some a := by
    split at h
    ·rw [List.getLast?_cons_of_ne_nil hr] at h; exact h
    ·exact h
   obtain ⟨h3, A, B, h4, h5⟩ := ih h2
   exact ⟨h3, x :: A, B, by rw [h4]; rfl, h5⟩
theorem tw_split {L A B : List Int} {z : Int} (hnd : L.Nodup) (e : L = A ++ z :: B) : L.takeWhile (fun k => decide (k ≠ z)) = A := by
 have hn : ∀ x, x ∈ A → x ≠ z := by
  intro x hx hxe
  rw [e, List.nodup_append] at hnd
  exact hnd.2.2 x hx z (List.mem_cons_self ..) hxe
 rw [e, List.takeWhile_append_of_pos (by intro x hx; simpa using hn x hx)]
 simp
theorem num_step (d : TDoc) (l : List (Ar59 TVal)) (hd : DocOK d) (hf : Full d) (hll : l.length = d.Nodes.length) (hk : ∀ x, x ∈ d.Nodes → x.Kids.length ≤ 140737488355328) (n : Nat) (hn : n < d.Nodes.length) (c m : Nat) (hc : ((kidsN d (parN d n).toNat).takeWhile fun k => decide (k ≠ (n : Int))).length ≤ c)
  (ih : ∀ c', c = c' + 1 → ∀ q, q < d.Nodes.length → ((kidsN d (parN d q).toNat).takeWhile fun k => decide (k ≠ (q : Int))).length ≤ c' → Z15 (m + c' + 1) d l (q : Int) = some (numS d l q)) :
  Z15 (m + c + 1) d l (n : Int) = some (numS d l n) := by
 have hparn : parN d n = d.Nodes[n].Parent := by unfold parN; rw [List.getElem?_eq_getElem hn]
 have hval : valN d n = numT d.Nodes[n] VAL := by unfold valN; rw [List.getElem?_eq_getElem hn]; rfl
 rw [Z15, (item_eq hll hn).2, Option.bind_some]
 unfold numS
 cases hi : itB d l n with
 | false => rw [if_pos (by simp), if_neg (by simp)]
 | true =>
  obtain ⟨k, k1, k2⟩ := numIn_eq hn (hd.one n hn).1 VAL
  rw [if_neg (by simp), if_pos rfl, k1, Option.bind_some, hval]
  cases hv : numT d.Nodes[n] VAL with
  | some v =>
   rw [k2 v hv]
   simp
  | none =>
   simp only [Option.isSome_none, Option.getD_none]
   rw [if_neg (by simp), at_some hn, Option.bind_some, hparn]
   by_cases hneg : d.Nodes[n].Parent < 0
   ·rw [if_pos (by simpa using hneg), if_pos hneg]
   ·rw [if_neg (by simpa using hneg), if_neg hneg]
    have hpar := hd.par n hn
    obtain ⟨p, hp⟩ : ∃ p : Nat, d.Nodes[n].Parent = (p : Int) := ⟨d.Nodes[n].Parent.toNat, by omega⟩
    have hpl : p < d.Nodes.length := by omega
    have hkids : kidsN d p = d.Nodes[p].Kids := by unfold kidsN; rw [List.getElem?_eq_getElem hpl]
    rw [hp, Int.toNat_natCast, hkids]
    rw [hparn, hp, Int.toNat_natCast, hkids] at hc
    have hkp := hk _ (List.getElem_mem hpl)
    have hloop : ∀ K : Int → Option Int, (lim fun kk => Zo d d.Nodes[n] l (n : Int) K kk (-1) 0) = K (((d.Nodes[p].Kids.takeWhile fun k => decide (k ≠ (n : Int))).filter fun k => itB d l k.toNat).getLast?.getD (-1)) := by
     intro K
     refine lim_eq (d.Nodes[p].Kids.length + 1) fun k hk' => ?_
     have := ahead_loop d l hd hll p hpl d.Nodes[n] hp n hkp K k 0 (-1) (by omega) (by omega)
     rw [List.drop_zero] at this
     exact this
    rw [hloop]
    have hsplit : d.Nodes[p].Kids = (d.Nodes[p].Kids.takeWhile fun k => decide (k ≠ (n : Int))) ++ (d.Nodes[p].Kids.dropWhile fun k => decide (k ≠ (n : Int))) := (List.takeWhile_append_dropWhile ..).symm
    generalize (d.Nodes[p].Kids.takeWhile fun k => decide (k ≠ (n : Int))) = Pf at hc hsplit ⊢
    generalize (d.Nodes[p].Kids.dropWhile fun k => decide (k ≠ (n : Int))) = Rs at hsplit
    cases hg : (Pf.filter fun k => itB d l k.toNat).getLast? with
    | none =>
     have hnil : (Pf.filter fun k => itB d l k.toNat) = [] := List.getLast?_eq_none_iff.1 hg
     have hnx : nxtN d l p Pf = staN d p := by unfold nxtN; rw [fold_items, hnil]; rfl
     have hsta : staN d p = (numT d.Nodes[p] STA).getD 1 := by unfold staN; rw [List.getElem?_eq_getElem hpl]; rfl
     obtain ⟨k3, k4, k5⟩ := numIn_eq hpl (hd.one p hpl).1 STA
     rw [Option.getD_none, if_neg (by simp), k4, Option.bind_some, hnx, hsta]
     cases hs : numT d.Nodes[p] STA with
     | some z => rw [k5 z hs]; simp
     | none => simp
    | some a =>
     obtain ⟨ha, A, B, hAB, hB⟩ := filter_last hg
     have hall : d.Nodes[p].Kids = A ++ a :: (B ++ Rs) := by rw [hsplit, hAB]; simp
     have ham : a ∈ d.Nodes[p].Kids := by rw [hall]; simp
     obtain ⟨q, hq, hql, hqp⟩ := hd.kids p hpl hpl a ham
     have hparq : parN d q = (p : Int) := by unfold parN; rw [List.getElem?_eq_getElem hql]; exact hqp
     have htw := tw_split (hf.nodup p hpl) hall
     rw [hq] at htw ha
     rw [Int.toNat_natCast] at ha
     have hnumq : numS d l q = (valN d q).getD (nxtN d l p A) := by
      unfold numS
      rw [if_pos ha, hparq, if_neg (by omega), Int.toNat_natCast, hkids, htw]
     have hnx : nxtN d l p Pf = mn ((valN d q).getD (nxtN d l p A) + 1) 1000000 := by
      have e1 : nxtN d l p Pf = B.foldl (stepN d l) (stepN d l (nxtN d l p A) a) := by
       unfold nxtN
       rw [hAB, List.foldl_append, List.foldl_cons]
      rw [e1, fold_items, hB]
      show stepN d l (nxtN d l p A) a = _
      unfold stepN
      rw [hq, Int.toNat_natCast, if_pos ha]
     have hlen : A.length + 1 ≤ c := by
      have : Pf.length = A.length + (B.length + 1) := by rw [hAB]; simp
      omega
     obtain ⟨c', rfl⟩ : ∃ c', c = c' + 1 := ⟨c - 1, by omega⟩
     have hih := ih c' rfl q hql (by rw [hparq, Int.toNat_natCast, hkids, htw]; omega)
     have hr := num_range d l q
     obtain ⟨r1, r2⟩ := hr
     rw [Option.getD_some, hq, if_pos (by simp), show m + (c' + 1) = m + c' + 1 by omega, hih, Option.bind_some, wi_id (by omega) (by omega), hnx, ← hnumq]
theorem num_of (d : TDoc) (l : List (Ar59 TVal)) (hd : DocOK d) (hf : Full d) (hll : l.length = d.Nodes.length) (hk : ∀ x, x ∈ d.Nodes → x.Kids.length ≤ 140737488355328) : ∀ (c n : Nat), n < d.Nodes.length → ((kidsN d (parN d n).toNat).takeWhile fun k => decide (k ≠ (n : Int))).length ≤ c → ∀ m, Z15 (m + c + 1) d l (n : Int) = some (numS d l n) := by
 intro c
 induction c with
 | zero => intro n hn hc m; exact num_step d l hd hf hll hk n hn 0 m hc (fun c' hc' => by omega)
 | succ c ih =>
  intro n hn hc m
  refine num_step d l hd hf hll hk n hn (c + 1) m hc (fun c' hc' q hq hqc => ?_)
  obtain rfl : c' = c := by omega
  exact ih q hq hqc m
end Go.Proofs.YtaejmblphhjccaaGreatDoorBv
/- Roman digits of a number. No program is in sight. -/
namespace Go.Proofs.YtaejmblphhjccaaGreatDoorBv
open Go
set_option linter.unusedSimpArgs false
set_option linter.unusedVariables false
/-! ### Roman digits -/
def romG : List (Nat × List UInt8) → Nat → List UInt8
 | [], _ => []
 | p :: r, n => (List.replicate (n / p.1) p.2).flatten ++ romG r (n % p.1)
def romL : List (Nat × List UInt8) := [(1000, [109]), (900, [99, 109]), (500, [100]), (400, [99, 100]), (100, [99]), (90, [120, 99]), (50, [108]), (40, [120, 108]), (10, [120]), (9, [105, 120]), (5, [118]), (4, [105, 118]), (1, [105])]
theorem roman_l3 (v : Nat) (s : List UInt8) (hv : 1 ≤ v) (hs : s.length ≤ 2) (v20 : Int) (K : Int → List UInt8 → Option (List UInt8)) : ∀ (d n : Nat) (b : List UInt8), n ≤ d → n ≤ 1000000 → b.length + 2 * n ≤ 1000000 → ∀ m,
  Zp ⟨(v : Int), s⟩ v20 K (m + d + 1) (n : Int) b = K ((n % v : Nat) : Int) (b ++ (List.replicate (n / v) s).flatten)
 | d, n, b, hd, hn, hb, m => by
  by_cases h : v ≤ n
  ·obtain ⟨e, rfl⟩ : ∃ e, d = e + 1 := ⟨d - 1, by omega⟩
   have ih := roman_l3 v s hv hs v20 K e (n - v) (b ++ s) (by omega) (by omega) (by rw [List.length_append]; omega) m
   rw [Zp, if_pos (by simp only [decide_eq_true_eq]; omega)]
   show (bWriteString? b s).bind _ = _
   unfold bWriteString?
   rw [if_pos (by omega), Option.bind_some, show (n : Int) - (v : Int) = ((n - v : Nat) : Int) by omega, wi_id (by omega) (by omega), show m + (e + 1) = m + e + 1 by omega, ih]
   have e1 : n / v = (n - v) / v + 1 := Nat.div_eq_sub_div (by omega) h
   have e2 : n % v = (n - v) % v := (Nat.mod_eq_sub_mod h)
   rw [e1, e2, List.replicate_succ, List.flatten_cons, List.append_assoc]
  ·rw [Zp, if_neg (by simp only [decide_eq_true_eq]; omega), Nat.mod_eq_of_lt (by omega), Nat.div_eq_of_lt (by omega)]
   simp
def romI (x : Tanon) : Nat × List UInt8 := (x.f_n.toNat, x.f_s)
theorem roman_l2 (K : List UInt8 → Option (List UInt8)) : ∀ (d j n : Nat) (b : List UInt8), j + d = 13 → n ≤ 4000 → b.length + 2 * n ≤ 10000 → ∀ m,
  Zq K (m + d + 1) (n : Int) b (j : Int) = K (b ++ romG ((Z8.drop j).map romI) n)
 | 0, j, n, b, hj, hn, hb, m => by
  obtain rfl : j = 13 := by omega
  rw [Zq, if_neg (by decide)]
  show K b = K (b ++ [])
  rw [List.append_nil]
 | d + 1, j, n, b, hj, hn, hb, m => by
  have hlen : Z8.length = 13 := rfl
  have h : j < Z8.length := by omega
  have hall : ∀ x, x ∈ Z8 → 1 ≤ x.f_n ∧ x.f_s.length ≤ 2 := by decide
  obtain ⟨x1, x2⟩ := hall _ (List.getElem_mem h)
  obtain ⟨v, hv⟩ : ∃ v : Nat, Z8[j].f_n = v := ⟨Z8[j].f_n.toNat, by omega⟩
  have ex : Z8[j] = (⟨(v : Int), Z8[j].f_s⟩ : Tanon) := by rw [← hv]
  have hcount : ∀ q : Nat, q * v ≤ n → q * 1 ≤ n := fun q hq => Nat.le_trans (Nat.mul_le_mul_left q (by omega)) hq
  have hq : n / v ≤ n := Nat.div_le_self n v
  have hflat : ((List.replicate (n / v) Z8[j].f_s).flatten).length + 2 * (n % v) ≤ 2 * n := by
   rw [List.length_flatten, List.map_replicate, List.sum_replicate_nat]
   have e := Nat.div_add_mod n v
   have e2 : n / v * Z8[j].f_s.length ≤ n / v * 2 := Nat.mul_le_mul_left _ x2
   have e3 : n / v * 1 ≤ v * (n / v) := by rw [Nat.mul_comm v]; exact Nat.mul_le_mul_left _ (by omega)
   omega
  have hm : n % v ≤ n := Nat.mod_le n v
  rw [Zq, if_pos (by simp only [decide_eq_true_eq]; omega), at_some h, Option.bind_some]
  refine lim_add (n + 1) fun k => ?_
  rw [show k + (n + 1) = k + n + 1 from rfl, ex, roman_l3 v _ (by omega) x2 _ _ n n b (Nat.le_refl _) (by omega) (by omega) k, wi_id (by omega) (by omega), show (j : Int) + 1 = ((j + 1 : Nat) : Int) by omega, show m + (d + 1) = m + d + 1 by omega,
   roman_l2 K d (j + 1) (n % v) _ (by omega) (by omega) (by rw [List.length_append]; omega) m, List.drop_eq_getElem_cons h, List.map_cons, romG]
  have e : romI Z8[j] = (v, Z8[j].f_s) := by unfold romI; rw [hv]; simp
  rw [e, List.append_assoc]
theorem roman_eq (n : Nat) (hn : n < 4000) : Z1r (n : Int) = some (romG romL n) := by
 unfold Z1r
 refine lim_add 14 fun m => ?_
 have := roman_l2 (fun b_1 => some b_1) 13 0 n [] rfl (by omega) (by simp; omega) m
 exact this
theorem fourth_eq : Z2c = some true := by
 unfold Z2c Z2z
 rw [if_neg (by decide), if_neg (by decide)]
 unfold Zk
 rw [if_neg (by decide), if_neg (by decide), if_neg (by decide), if_neg (by decide), if_pos (by decide)]
 have := roman_eq 14 (by decide)
 rw [show (14 : Int) = ((14 : Nat) : Int) from rfl, this, show romG romL 14 = [120, 105, 118] by decide +kernel]
 decide
end Go.Proofs.YtaejmblphhjccaaGreatDoorBv
/- The program's check of styles: it answers whatever they are. No program is in sight. -/
namespace Go.Proofs.YtaejmblphhjccaaGreatDoorBv
open Go
set_option linter.unusedSimpArgs false
set_option linter.unusedVariables false
def rowsAll : List Trow := Z31 ++ Z33 ++ Z35
theorem at_eq {p : Nat} (h : p < 59) : Z1d (p : Int) = rowsAll[p]? := by
 have l1 : Z31.length = 20 := by decide
 have l2 : Z33.length = 20 := by decide
 have l3 : Z35.length = 19 := by decide
 unfold Z1d rowsAll
 by_cases h1 : p < 20
 ·rw [if_pos (by simp only [decide_eq_true_eq]; omega), List.append_assoc, List.getElem?_append_left (by omega)]
  unfold Z32
  rw [at_nat, List.getElem?_eq_getElem (by omega)]
  rfl
 ·by_cases h2 : p < 40
  ·rw [if_neg (by simp only [decide_eq_true_eq]; omega), if_pos (by simp only [decide_eq_true_eq]; omega), List.getElem?_append_left (by rw [List.length_append]; omega), List.getElem?_append_right (by omega), l1]
   unfold Z34
   rw [wi_id (by omega) (by omega), show (p : Int) - 20 = ((p - 20 : Nat) : Int) by omega, at_nat, List.getElem?_eq_getElem (by omega)]
   rfl
  ·rw [if_neg (by simp only [decide_eq_true_eq]; omega), if_neg (by simp only [decide_eq_true_eq]; omega), List.getElem?_append_right (by rw [List.length_append]; omega), List.length_append, l1, l2]
   unfold Z36
   rw [wi_id (by omega) (by omega), show (p : Int) - 40 = ((p - (20 + 20) : Nat) : Int) by omega, at_nat, List.getElem?_eq_getElem (by omega)]
   rfl
theorem keys_short : (rowsAll.all fun r => decide (r.f_keys.length < 4294967281)) = true := by decide +kernel
theorem row_some {p : Nat} (h : p < 59) : ∃ r, Z1d (p : Int) = some r ∧ r.f_keys.length < 4294967281 := by
 have hl : rowsAll.length = 59 := by decide
 rw [at_eq h, List.getElem?_eq_getElem (by omega)]
 exact ⟨_, rfl, by simpa using List.all_eq_true.1 keys_short _ (List.getElem_mem (show p < rowsAll.length by omega))⟩
theorem j2_tot (p : Int) (v : TVal) (low : Int) : ∃ b, Z1v p v low = some b := by
 unfold Z1v Z2j Z1f
 repeat' split
 all_goals exact ⟨_, rfl⟩
theorem fit_tot {p : Nat} (h : p < 59) (v : TVal) : ∃ b, Z2k (p : Int) v = some b := by
 obtain ⟨r, hr, hk⟩ := row_some h
 have j1 : ∀ b, ∃ q, Z1w (p : Int) v b = some q := by
  intro b
  unfold Z1w
  cases b with
  | true => exact ⟨_, rfl⟩
  | false =>
   rw [if_neg (by simp), hr, Option.bind_some]
   split
   ·have hs : Z41 r.f_keys [32] = some (splitL r.f_keys [32]) := by
     show split? r.f_keys [32] = _
     unfold split?
     rw [if_pos ⟨hk, by decide⟩]
    have hkey : ∃ z, Z2i r v.N = some z := by
     unfold Z2i Z2h
     rw [hs, Option.bind_some]
     by_cases hb : v.N < 0 ∨ ((splitL r.f_keys [32]).length : Int) ≤ v.N
     ·rw [if_pos (by simpa using hb), if_pos rfl]; exact ⟨_, rfl⟩
     ·obtain ⟨m, hm⟩ : ∃ m : Nat, v.N = m := ⟨v.N.toNat, by omega⟩
      rw [if_neg (by simpa using hb), hm, at_some (show m < (splitL r.f_keys [32]).length by omega), Option.bind_some]
      split
      ·exact ⟨_, rfl⟩
      ·exact ⟨_, rfl⟩
    obtain ⟨z, hz⟩ := hkey
    rw [hz, Option.bind_some]
    exact ⟨_, rfl⟩
   ·split
    ·exact ⟨_, rfl⟩
    ·split
     ·exact ⟨_, rfl⟩
     ·split
      ·exact j2_tot _ _ _
      ·exact j2_tot _ _ _
 have hlet : ∃ c : UInt8, Z2g v.Kind = some [c] := by
  by_cases hk : 1 ≤ v.Kind ∧ v.Kind ≤ 6
  ·rcases (show v.Kind = 1 ∨ v.Kind = 2 ∨ v.Kind = 3 ∨ v.Kind = 4 ∨ v.Kind = 5 ∨ v.Kind = 6 by omega) with e | e | e | e | e | e <;> rw [e]
   ·exact ⟨107, rfl⟩
   ·exact ⟨108, rfl⟩
   ·exact ⟨112, rfl⟩
   ·exact ⟨110, rfl⟩
   ·exact ⟨99, rfl⟩
   ·exact ⟨97, rfl⟩
  ·unfold Z2g
   rw [if_pos (by simp only [Bool.or_eq_true, decide_eq_true_eq]; omega)]
   exact ⟨_, rfl⟩
 obtain ⟨c, hc⟩ := hlet
 have hin : Z1c (p : Int) = true := by unfold Z1c; simp; omega
 unfold Z2k
 rw [hin, if_neg (by decide), hr, Option.bind_some, hc, Option.bind_some]
 obtain ⟨b, hb⟩ : ∃ b, Z40 r.f_kinds [c] = some b := ⟨_, rfl⟩
 rw [hb, Option.bind_some]
 exact j1 _
theorem arL_len' (x : Ar59 TVal) : (arL x).length = 59 := rfl
theorem sl3 (x : Ar59 TVal) (l : List (Ar59 TVal)) (i : Int) (K : Unit → Option Int) (e : Int) (hK : K () = some e) : ∀ (c p : Nat), p + c = 59 → ∃ r, ∀ m, Z5 x l i K (m + c + 1) (p : Int) = some r ∧ (r = e ∨ r = 3)
 | 0, p, hp => ⟨e, fun m => ⟨by rw [Z5, if_neg (by simp only [decide_eq_true_eq]; omega)]; exact hK, .inl rfl⟩⟩
 | c + 1, p, hp => by
  have h : p < (arL x).length := by rw [arL_len']; omega
  obtain ⟨b, hb⟩ := fit_tot (p := p) (by omega) (arL x)[p]
  obtain ⟨r, hr⟩ := sl3 x l i K e hK c (p + 1) (by omega)
  have head : ∀ m, Z5 x l i K (m + (c + 1) + 1) (p : Int) = if (!b) then some 3 else Z5 x l i K (m + c + 1) ((p + 1 : Nat) : Int) := by
   intro m
   rw [Z5, if_pos (by simp only [decide_eq_true_eq]; omega), letIn_eq]
   show ((at? (arL x) (p : Int)).bind _) = _
   rw [at_some h, Option.bind_some, hb, Option.bind_some, wi_id (by omega) (by omega), show (p : Int) + 1 = ((p + 1 : Nat) : Int) by omega, show m + (c + 1) = m + c + 1 by omega]
  cases b with
  | true => exact ⟨r, fun m => ⟨by rw [head, if_neg (by simp)]; exact (hr m).1, (hr m).2⟩⟩
  | false => exact ⟨3, fun m => ⟨by rw [head, if_pos (by simp)], .inr rfl⟩⟩
theorem sl2 (l : List (Ar59 TVal)) (hl : l.length ≤ 200) : ∀ (c i : Nat), i + c = l.length → ∃ r, ∀ m, Zb l (fun _ => some 0) (m + c + 1) (i : Int) = some r
 | 0, i, hi => ⟨0, fun m => by rw [Zb, if_neg (by simp only [decide_eq_true_eq]; omega)]⟩
 | c + 1, i, hi => by
  have h : i < l.length := by omega
  obtain ⟨e, he⟩ := sl2 l hl c (i + 1) (by omega)
  have step : ∀ m, ∃ r, Zb l (fun _ => some 0) (m + (c + 1) + 1) (i : Int) = some r ∧ ∀ m', Zb l (fun _ => some 0) (m' + (c + 1) + 1) (i : Int) = some r := by
   intro m
   have hK : ∀ m, (fun (_ : Unit) => (Zb l (fun _ => some 0) (m + (c + 1))) (wi ((i : Int) + 1))) () = some e := by
    intro m
    simp only
    rw [wi_id (by omega) (by omega), show (i : Int) + 1 = ((i + 1 : Nat) : Int) by omega]
    exact he m
   have hb : ∃ b : Bool, ∀ (K : Unit → Option Int), K () = some e → ∀ q, Z5 l[i] l (i : Int) K (q + 59 + 1) 0 = some (if b then e else 3) := by
    have okD : ∀ (c p : Nat), p + c = 59 → ∃ b : Bool, ∀ (K : Unit → Option Int), K () = some e → ∀ q, Z5 l[i] l (i : Int) K (q + c + 1) (p : Int) = some (if b then e else 3) := by
     intro c
     induction c with
     | zero => intro p hp; exact ⟨true, fun K hK q => by rw [Z5, if_neg (by simp only [decide_eq_true_eq]; omega)]; exact hK⟩
     | succ c ih =>
      intro p hp
      have hpl : p < (arL l[i]).length := by rw [arL_len']; omega
      obtain ⟨b, hb⟩ := fit_tot (p := p) (by omega) (arL l[i])[p]
      obtain ⟨b2, h2⟩ := ih (p + 1) (by omega)
      refine ⟨b && b2, fun K hK q => ?_⟩
      rw [Z5, if_pos (by simp only [decide_eq_true_eq]; omega), letIn_eq]
      show ((at? (arL l[i]) (p : Int)).bind _) = _
      rw [at_some hpl, Option.bind_some, hb, Option.bind_some, wi_id (by omega) (by omega), show (p : Int) + 1 = ((p + 1 : Nat) : Int) by omega, show q + (c + 1) = q + c + 1 by omega, h2 K hK q]
      cases b <;> simp
    exact okD 59 0 rfl
   obtain ⟨b, hb⟩ := hb
   have all : ∀ m, Zb l (fun _ => some 0) (m + (c + 1) + 1) (i : Int) = some (if b then e else 3) := by
    intro m
    rw [Zb, if_pos (by simp only [decide_eq_true_eq]; omega), at_some h, Option.bind_some]
    exact lim_add 60 fun q => hb _ (hK m) q
   exact ⟨_, all m, all⟩
  obtain ⟨r, _, hr⟩ := step 0
  exact ⟨r, hr⟩
theorem fits_tot (d : TDoc) (l : List (Ar59 TVal)) (hk : ∀ x, x ∈ d.Nodes → x.Kids.length ≤ 140737488355328) : ∃ e, Z1g d l = some e ∧ (e = 0 → DocOK d ∧ Full d ∧ l.length = d.Nodes.length) := by
 obtain ⟨c, hc, hok⟩ := check_tot d hk
 unfold Z1g
 rw [hc, Option.bind_some]
 by_cases h0 : c = 0
 ·have hd := hok h0
  subst h0
  have hf := full_of hk hd hc
  have h200 := hd.many
  rw [if_neg (by simp)]
  by_cases hl : l.length = d.Nodes.length
  ·obtain ⟨r, hr⟩ := sl2 l (by omega) l.length 0 (by omega)
   rw [if_neg (by simp [hl])]
   exact ⟨r, lim_add (l.length + 1) fun m => hr m, fun _ => ⟨hd, hf, hl⟩⟩
  ·rw [if_pos (by simp; omega)]
   exact ⟨3, rfl, fun h => by cases h⟩
 ·rw [if_pos (by simpa using h0)]
  exact ⟨c, rfl, fun h => absurd h h0⟩
end Go.Proofs.YtaejmblphhjccaaGreatDoorBv
/- The law of numbers of lists, over plain values. No program is in sight. -/
namespace Go.Proofs.YtaejmblphhjccaaGreatDoorBv
open Go
set_option linter.unusedSimpArgs false
set_option linter.unusedVariables false
noncomputable def mkS (d : TDoc) (l : List (Ar59 TVal)) (n : Nat) : List UInt8 := if itB d l n then (match l[n]? with | some s => if s.a57.N = 1 then [226, 128, 162] else if s.a57.N = 2 then Lib.itoa (numS d l n) ++ [46] else [] | none => []) else []
theorem mark1 (k : Int) : Zk 1 k = some [226, 128, 162] := by
 unfold Zk
 rw [if_neg (by decide), if_pos (by decide)]
theorem marks_loop (d : TDoc) (l : List (Ar59 TVal)) (hll : l.length = d.Nodes.length) (h200 : d.Nodes.length ≤ 200) (r : List Int) (hrl : r.length = d.Nodes.length) (hr : ∀ n, n < d.Nodes.length → r[n]? = some (numS d l n)) (K : List (List UInt8) → Option (List (List UInt8) × Int)) : ∀ (c n : Nat) (out : List (List UInt8)), n + c = d.Nodes.length → out.length = d.Nodes.length → (∀ j, j < n → out[j]? = some (mkS d l j)) → (∀ j, n ≤ j → j < d.Nodes.length → out[j]? = some []) →
  ∃ out', (∀ m, Z3 r d l K (m + c + 1) out r (n : Int) = K out') ∧ out'.length = d.Nodes.length ∧ ∀ j, j < d.Nodes.length → out'[j]? = some (mkS d l j)
 | 0, n, out, hn, hol, h1, h2 => by
  refine ⟨out, fun m => ?_, hol, fun j hj => h1 j (by omega)⟩
  rw [Z3, if_neg (by simp only [decide_eq_true_eq]; omega)]
 | c + 1, n, out, hn, hol, h1, h2 => by
  have h : n < d.Nodes.length := by omega
  have hl : n < l.length := by omega
  have hw : wi ((n : Int) + 1) = ((n + 1 : Nat) : Int) := by rw [wi_id (by omega) (by omega)]; omega
  have hat : at? r (n : Int) = some (numS d l n) := by rw [at_nat]; exact hr n h
  have hmk : mkS d l n = if itB d l n then (if l[n].a57.N = 1 then [226, 128, 162] else if l[n].a57.N = 2 then Lib.itoa (numS d l n) ++ [46] else []) else [] := by
   unfold mkS
   rw [List.getElem?_eq_getElem hl]
  have keep : mkS d l n = [] → ∃ out', (∀ m, Z3 r d l K (m + c + 1) out r ((n + 1 : Nat) : Int) = K out') ∧ out'.length = d.Nodes.length ∧ ∀ j, j < d.Nodes.length → out'[j]? = some (mkS d l j) := fun he =>
   marks_loop d l hll h200 r hrl hr K c (n + 1) out (by omega) hol (fun j hj => by
    by_cases e : j = n
    ·subst e; rw [h2 j (by omega) h, he]
    ·exact h1 j (by omega)) (fun j hj hjl => h2 j (by omega) hjl)
  have put : ∃ out', (∀ m, Z3 r d l K (m + c + 1) (out.set n (mkS d l n)) r ((n + 1 : Nat) : Int) = K out') ∧ out'.length = d.Nodes.length ∧ ∀ j, j < d.Nodes.length → out'[j]? = some (mkS d l j) :=
   marks_loop d l hll h200 r hrl hr K c (n + 1) (out.set n (mkS d l n)) (by omega) (by rw [List.length_set]; exact hol) (fun j hj => by
    by_cases e : j = n
    ·subst e; rw [List.getElem?_set_self (by omega)]
    ·rw [List.getElem?_set_ne (Ne.symm e)]; exact h1 j (by omega)) (fun j hj hjl => by rw [List.getElem?_set_ne (by omega)]; exact h2 j (by omega) hjl)
  have head : ∀ m, Z3 r d l K (m + (c + 1) + 1) out r (n : Int) = if itB d l n then (if l[n].a57.N = 1 ∨ l[n].a57.N = 2 then Z3 r d l K (m + c + 1) (out.set n (mkS d l n)) r ((n + 1 : Nat) : Int) else Z3 r d l K (m + c + 1) out r ((n + 1 : Nat) : Int)) else Z3 r d l K (m + c + 1) out r ((n + 1 : Nat) : Int) := by
   intro m
   rw [Z3, if_pos (by simp only [decide_eq_true_eq]; omega), hat, Option.bind_some, (item_eq hll h).1, Option.bind_some]
   unfold Z1j
   rw [hw]
   cases hi : itB d l n with
   | false => simp; rfl
   | true =>
    rw [hi, if_pos rfl] at hmk
    rw [if_neg (by simp), at_some hl, Option.bind_some, if_pos rfl]
    by_cases e1 : l[n].a57.N = 1
    ·rw [if_pos (by simpa using e1), mark1, Option.bind_some, at_some (show n < out.length by omega), Option.bind_some, if_pos (.inl e1), hmk, if_pos e1, Int.toNat_natCast]
     rfl
    ·rw [if_neg (by simpa using e1)]
     by_cases e2 : l[n].a57.N = 2
     ·have hR := num_range d l n
      have hlen := itoa_len hR
      rw [if_pos (by simpa using e2), mark2 hR, Option.bind_some, catq (by simp; omega), Option.bind_some, at_some (show n < out.length by omega), Option.bind_some, if_pos (.inr e2), hmk, if_neg e1, if_pos e2, Int.toNat_natCast]
      rfl
     ·rw [if_neg (by simpa using e2), if_neg (by simp [e1, e2])]
      rfl
  cases hi : itB d l n with
  | false =>
   rw [hi] at hmk
   obtain ⟨out', a1, a2⟩ := keep (by rw [hmk]; simp)
   exact ⟨out', fun m => by rw [head, hi, if_neg (by simp)]; exact a1 m, a2⟩
  | true =>
   rw [hi, if_pos rfl] at hmk
   by_cases e : l[n].a57.N = 1 ∨ l[n].a57.N = 2
   ·obtain ⟨out', a1, a2⟩ := put
    exact ⟨out', fun m => by rw [head, hi, if_pos rfl, if_pos e]; exact a1 m, a2⟩
   ·obtain ⟨out', a1, a2⟩ := keep (by rw [hmk, if_neg (fun h => e (.inl h)), if_neg (fun h => e (.inr h))])
    exact ⟨out', fun m => by rw [head, hi, if_pos rfl, if_neg e]; exact a1 m, a2⟩
theorem law_loop (d : TDoc) (l : List (Ar59 TVal)) (hd : DocOK d) (hf : Full d) (hll : l.length = d.Nodes.length) (hk : ∀ x, x ∈ d.Nodes → x.Kids.length ≤ 140737488355328) (b : Bool) (r : List Int) (hrl : r.length = d.Nodes.length) (hr : ∀ n, n < d.Nodes.length → r[n]? = some (numS d l n)) (q : List (List UInt8)) (hq : ∀ n, n < d.Nodes.length → q[n]? = some (mkS d l n)) (K : Unit → Option Bool) : ∀ (N n : Nat), d.Nodes.length - n < N → n ≤ d.Nodes.length → Zj d l b K N r q (n : Int) = K ()
 | 0, n, hN, hn => by omega
 | N + 1, n, hN, hn => by
  have h200 := hd.many
  rw [Zj]
  by_cases h : n < d.Nodes.length
  ·have hl : n < l.length := by omega
   have hw : wi ((n : Int) + 1) = ((n + 1 : Nat) : Int) := by rw [wi_id (by omega) (by omega)]; omega
   have hR := num_range d l n
   have hlen := itoa_len hR
   obtain ⟨R1, R2⟩ := hR
   have hno : Z2s d l (n : Int) = some (numS d l n) := by
    unfold Z2s
    exact lim_add (((kidsN d (parN d n).toNat).takeWhile fun k => decide (k ≠ (n : Int))).length + 1) fun m => num_of d l hd hf hll hk _ n h (Nat.le_refl _) m
   have a1 : at? r (n : Int) = some (numS d l n) := by rw [at_nat]; exact hr n h
   have a2 : at? q (n : Int) = some (mkS d l n) := by rw [at_nat]; exact hq n h
   have ih := law_loop d l hd hf hll hk b r hrl hr q hq K N (n + 1) (by omega) (by omega)
   have hmk : mkS d l n = if itB d l n then (if l[n].a57.N = 1 then [226, 128, 162] else if l[n].a57.N = 2 then Lib.itoa (numS d l n) ++ [46] else []) else [] := by
    unfold mkS
    rw [List.getElem?_eq_getElem hl]
   have j24 : ∀ mk, mk = mkS d l n → Z2a (n : Int) (numS d l n) l b d (Zj d l b K N) K r q mk = K () := by
    intro mk hm
    unfold Z2a Z2u
    rw [a1, Option.bind_some, if_neg (by simp), a2, Option.bind_some, hm, if_neg (by simp), hw]
    exact ih
   have j21 : ∀ mk, mk = (if itB d l n = true ∧ l[n].a57.N = 1 then [226, 128, 162] else []) → Z2b d l (n : Int) (numS d l n) b (Zj d l b K N) K r q mk = K () := by
    intro mk hm
    unfold Z2b Z2v
    rw [(item_eq hll h).2, Option.bind_some]
    cases hi : itB d l n with
    | false =>
     rw [hi] at hmk hm
     rw [if_neg (by simp), if_neg (by simp)]
     exact j24 mk (by rw [hm, hmk]; simp)
    | true =>
     rw [hi] at hmk hm
     rw [if_pos rfl, at_some hl, Option.bind_some]
     by_cases e2 : l[n].a57.N = 2
     ·rw [if_pos (by simpa using e2), signed_eq _ (by omega) (by omega), Option.bind_some, catq (by simp; omega), Option.bind_some]
      exact j24 _ (by rw [hmk, if_pos rfl, if_neg (by omega), if_pos e2])
     ·rw [if_neg (by simpa using e2)]
      refine j24 mk ?_
      rw [hm, hmk]
      by_cases e1 : l[n].a57.N = 1
      ·simp [e1]
      ·simp [e1, e2]
   rw [if_pos (by simp only [decide_eq_true_eq]; omega), hno, Option.bind_some, (item_eq hll h).2, Option.bind_some]
   unfold Z2w
   cases hi : itB d l n with
   | false =>
    rw [if_neg (by simp), if_neg (by simp)]
    exact j21 [] (by simp [hi])
   | true =>
    rw [if_pos rfl, at_some hl, Option.bind_some]
    by_cases e1 : l[n].a57.N = 1
    ·have hm1 : Z2t 1 (numS d l n) = some (byts ([226, 128, 162] : List Int)) := by
      unfold Z2t
      rw [if_neg (by decide), if_pos (by decide)]
     rw [if_pos (by simpa using e1), hm1, Option.bind_some]
     exact j21 _ (by rw [if_pos ⟨hi, e1⟩]; decide)
    ·rw [if_neg (by simpa using e1)]
     exact j21 [] (by rw [if_neg (fun hx => e1 hx.2)])
  ·rw [if_neg (by simp only [decide_eq_true_eq]; omega)]
theorem pureCountNumbers : PureCountNumbers := by
 intro d l hd0 hl0
 have hk : ∀ x, x ∈ d.Nodes → x.Kids.length ≤ 140737488355328 := by
  intro x hx
  have := (hd0.1.2 x hx).2.2.2.2.2.1
  unfold reachBytes at this
  omega
 obtain ⟨e, he, hok⟩ := fits_tot d l hk
 unfold Z3q Z3a Z3d
 rw [fourth_eq, Option.bind_some, he, Option.bind_some]
 by_cases h0 : e = 0
 ·obtain ⟨hd, hf, hll⟩ := hok h0
  have h200 := hd.many
  subst h0
  obtain ⟨r, r1, r2, r3⟩ := numbers_eq hd hf hll hk
  obtain ⟨q, q1, q2, q3⟩ := marks_loop d l hll h200 r r2 r3 (fun out1 => some (out1, 0)) d.Nodes.length 0 (List.replicate d.Nodes.length []) (by omega) (by simp) (fun j hj => by omega) (fun j _ hj => by rw [List.getElem?_replicate, if_pos hj])
  have el : lim (fun kk => Z3 r d l (fun out1 => some (out1, 0)) kk (List.replicate d.Nodes.length []) r 0) = some (q, 0) := lim_add (d.Nodes.length + 1) fun m => q1 m
  rw [if_neg (by simp), r1, Option.bind_some, Option.bind_some, Option.bind_some, if_neg (by simp), mkl_some (by omega) (Int.le_refl _) (by omega) (by omega), Option.bind_some, Int.toNat_natCast, Option.bind_some, el, Option.bind_some, Option.bind_some, if_neg (by simp), if_neg (by simp [r2, q2])]
  refine lim_eq (d.Nodes.length + 1) fun k hk' => ?_
  exact law_loop d l hd hf hll hk true r r2 r3 q q3 _ k 0 (by omega) (by omega)
 ·rw [if_pos (by simpa using h0), Option.bind_some, Option.bind_some, if_pos (by simpa using h0), Option.bind_some, Option.bind_some, if_pos (by simpa using h0)]
  simp
end Go.Proofs.YtaejmblphhjccaaGreatDoorBv
-- squeezed
