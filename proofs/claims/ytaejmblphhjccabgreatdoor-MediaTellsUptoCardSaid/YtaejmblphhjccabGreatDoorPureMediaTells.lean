/- The law of queries that are told, over plain values of bounded bulk. No program is in sight. -/
import Derived.Test.YtaejmblphhjccabGreatDoorJoinSMediaTells
import Derived.Test.YtaejmblphhjccabGreatDoorSig2MediaTells
import Derived.Test.YtaejmblphhjccabGreatDoorBv31
import Derived.WalkKit
namespace Go.Proofs.YtaejmblphhjccabGreatDoorBv
open Go
set_option linter.unusedSimpArgs false
set_option linter.unusedVariables false
set_option maxRecDepth 100000 in
theorem wide_eq : clerestorylaw2_wide = some true := by kernel_rfl
abbrev AND : List UInt8 := [32, 97, 110, 100, 32]
abbrev COM : List UInt8 := [44, 32]
abbrev NOT : List UInt8 := [110, 111, 116, 32]
theorem signed_all (n : Int) (h1 : -9223372036854775808 ≤ n) (h2 : n ≤ 9223372036854775807) : clerestoryref2_Signed n = some (Lib.itoa n) := by
  by_cases h : n = -9223372036854775808
  · subst h
    have hs : clerestoryref2_Signed (-922337203685477580) = some (Lib.itoa (-922337203685477580)) := signed_eq _ (by decide) (by decide)
    unfold clerestoryref2_Signed at hs ⊢
    obtain ⟨k0, hk0⟩ := lim_some hs
    have hd : clerestoryref2_Digits 8 = some [56] := by
      unfold clerestoryref2_Digits
      exact lim_add 1 fun m => rfl
    have loop := signed_loop 20 922337203685477580
    have hdec : Lib.itoa (-9223372036854775808) = Lib.itoa (-922337203685477580) ++ [56] := by
      unfold Lib.itoa
      rw [if_pos (by decide), if_pos (by decide)]
      show 45 :: Lib.decDigits 9223372036854775808 = 45 :: Lib.decDigits 922337203685477580 ++ [56]
      rw [Lib.decDigits, dif_neg (by decide)]
      rfl
    refine lim_eq 922337203685477582 fun k hk => ?_
    obtain ⟨m, rfl⟩ : ∃ m, k = m + 1 := ⟨k - 1, by omega⟩
    have hin : clerestoryref2_Signed_r m (-922337203685477580) = some (Lib.itoa (-922337203685477580)) := by
      obtain ⟨q, rfl⟩ : ∃ q, m = q + 922337203685477580 + 1 := ⟨m - 922337203685477581, by omega⟩
      have := signed_loop 922337203685477580 922337203685477580 (Nat.le_refl _) (by omega) (by omega) q
      rw [show -((922337203685477580 : Nat) : Int) = -922337203685477580 from rfl] at this
      rw [this]
      unfold Lib.itoa
      rw [if_pos (by decide)]
      rfl
    rw [clerestoryref2_Signed_r, if_pos (by decide), show wi ((-9223372036854775808 : Int).tdiv 10) = -922337203685477580 by decide, hin, Option.bind_some, show wi (0 - (-9223372036854775808 : Int).tmod 10) = 8 by decide, hd, Option.bind_some, hdec, catq ?_, Option.bind_some]
    have := Lib.itoa_length_le (-922337203685477580) (by omega) (by omega)
    simp
    omega
  · exact signed_eq n (by omega) h2
def Rng (n : Int) : Prop := -9223372036854775808 ≤ n ∧ n ≤ 9223372036854775807
noncomputable def ftS (f : TSFeature) : List UInt8 := (clerestoryref2_FeatureText f).getD []
theorem rep (W R : List UInt8) (i : Int) (hc : Lib.countByte W 58 = 1) (hl : W.length ≤ 100)
    (hr : ∀ k, strings_Replace_l4 1 W [58] [58, 32] (fun b s => strings_Replace_j2 W b s) (k + 2) [] 0 0 = some R) : strings_Replace W [58] [58, 32] 1 = some R := by
  unfold strings_Replace
  have hcount : strings_Count W [58] = some 1 := by
    show count1? W [58] = some 1
    show some ((Lib.countByte W 58 : Nat) : Int) = some 1
    rw [hc]
    rfl
  rw [if_neg (by decide), hcount, Option.bind_some, if_neg (by decide), if_neg (by decide)]
  unfold strings_Replace_j1
  rw [letIn_eq]
  show (bGrow? _).bind _ = _
  unfold bGrow?
  have e : wi ((W.length : Int) + wi (1 * wi ((([58, 32] : List UInt8).length : Int) - (([58] : List UInt8).length : Int)))) = (W.length : Int) + 1 := by
    have : wi (1 * wi ((([58, 32] : List UInt8).length : Int) - (([58] : List UInt8).length : Int))) = 1 := by decide
    rw [this, wi_id (by omega) (by omega)]
  rw [e, if_pos (by omega), Option.bind_some, if_pos (by decide)]
  exact lim_add 2 hr
theorem ft_eq (f : TSFeature) (h : Rng f.Num) : media_featureText f = some (ftS f) ∧ clerestoryref2_FeatureText f = some (ftS f) ∧ (ftS f).length ≤ 100 := by
  obtain ⟨kd, n⟩ := f
  have hi := Lib.itoa_length_le n h.1 h.2
  have hit : strconv_Itoa n = some (Lib.itoa n) := by
    show itoa? n = _
    unfold itoa?
    rw [if_pos (show -9223372036854775808 ≤ n ∧ n ≤ 9223372036854775807 from h)]
  have hsg := signed_all n h.1 h.2
  have done : ∀ T : List UInt8, media_featureText ⟨kd, n⟩ = some T → clerestoryref2_FeatureText ⟨kd, n⟩ = some T → T.length ≤ 100 → media_featureText ⟨kd, n⟩ = some (ftS ⟨kd, n⟩) ∧ clerestoryref2_FeatureText ⟨kd, n⟩ = some (ftS ⟨kd, n⟩) ∧ (ftS ⟨kd, n⟩).length ≤ 100 := by
    intro T h1 h2 h3
    unfold ftS
    rw [h2]
    exact ⟨h1, rfl, h3⟩
  have num : ∀ (W : List UInt8), W.length ≤ 20 → 4 ≤ kd → kd ≤ 7 → at? media_featureText_t0 kd = some W → media_featureText ⟨kd, n⟩ = some ([40] ++ W ++ [58, 32] ++ Lib.itoa n ++ [112, 120, 41]) := by
    intro W hW h4 h7 hat
    unfold media_featureText
    rw [if_neg (by simp; omega), if_pos (by simp; omega), hat, Option.bind_some, catq (by simp; omega), Option.bind_some, catq (by simp; omega), Option.bind_some, hit, Option.bind_some, catq (by simp; omega), Option.bind_some, catq (by simp; omega), Option.bind_some]
  have rpl : ∀ (W R : List UInt8), W.length ≤ 50 → R.length ≤ 50 → 8 ≤ kd → kd ≤ 11 → at? media_featureText_t0 kd = some W → strings_Replace W [58] [58, 32] 1 = some R → media_featureText ⟨kd, n⟩ = some ([40] ++ R ++ [41]) := by
    intro W R hW hR h8 h11 hat hr
    unfold media_featureText
    rw [if_neg (by simp; omega), if_neg (by simp; omega), if_pos (by simp; omega), hat, Option.bind_some, hr, Option.bind_some, catq (by simp; omega), Option.bind_some, catq (by simp; omega), Option.bind_some]
  by_cases hk : 1 ≤ kd ∧ kd ≤ 11
  · rcases (show kd = 1 ∨ kd = 2 ∨ kd = 3 ∨ kd = 4 ∨ kd = 5 ∨ kd = 6 ∨ kd = 7 ∨ kd = 8 ∨ kd = 9 ∨ kd = 10 ∨ kd = 11 by omega) with e | e | e | e | e | e | e | e | e | e | e <;> subst e
    · exact done [97, 108, 108] rfl rfl (by decide)
    · exact done [115, 99, 114, 101, 101, 110] rfl rfl (by decide)
    · exact done [112, 114, 105, 110, 116] rfl rfl (by decide)
    · refine done _ (num _ (by decide) (by decide) (by decide) rfl) ?_ ?_
      · unfold clerestoryref2_FeatureText
        simp only [hsg, Option.bind_some]
        rw [if_neg (by simp), if_neg (by simp), if_neg (by simp), if_pos (by simp), catq (by simp; omega), Option.bind_some, catq (by simp; omega), Option.bind_some]
        rfl
      · simp; omega
    · refine done _ (num _ (by decide) (by decide) (by decide) rfl) ?_ ?_
      · unfold clerestoryref2_FeatureText
        simp only [hsg, Option.bind_some]
        rw [if_neg (by simp), if_neg (by simp), if_neg (by simp), if_neg (by simp), if_pos (by simp), catq (by simp; omega), Option.bind_some, catq (by simp; omega), Option.bind_some]
        rfl
      · simp; omega
    · refine done _ (num _ (by decide) (by decide) (by decide) rfl) ?_ ?_
      · unfold clerestoryref2_FeatureText
        simp only [hsg, Option.bind_some]
        rw [if_neg (by simp), if_neg (by simp), if_neg (by simp), if_neg (by simp), if_neg (by simp), if_pos (by simp), catq (by simp; omega), Option.bind_some, catq (by simp; omega), Option.bind_some]
        rfl
      · simp; omega
    · refine done _ (num _ (by decide) (by decide) (by decide) rfl) ?_ ?_
      · unfold clerestoryref2_FeatureText
        simp only [hsg, Option.bind_some]
        rw [if_neg (by simp), if_neg (by simp), if_neg (by simp), if_neg (by simp), if_neg (by simp), if_neg (by simp), if_pos (by simp), catq (by simp; omega), Option.bind_some, catq (by simp; omega), Option.bind_some]
        rfl
      · simp; omega
    · exact done _ (rpl _ _ (by decide) (by decide) (by decide) (by decide) rfl (rep _ _ 0 (by decide) (by decide) fun k => rfl)) rfl (by decide)
    · exact done _ (rpl _ _ (by decide) (by decide) (by decide) (by decide) rfl (rep _ _ 0 (by decide) (by decide) fun k => rfl)) rfl (by decide)
    · exact done _ (rpl _ _ (by decide) (by decide) (by decide) (by decide) rfl (rep _ _ 0 (by decide) (by decide) fun k => rfl)) rfl (by decide)
    · exact done _ (rpl _ _ (by decide) (by decide) (by decide) (by decide) rfl (rep _ _ 0 (by decide) (by decide) fun k => rfl)) rfl (by decide)
  · refine done [40, 63, 41] ?_ ?_ (by decide)
    · unfold media_featureText
      rw [if_neg (by simp; omega), if_neg (by simp; omega), if_neg (by simp; omega)]
    · unfold clerestoryref2_FeatureText
      repeat rw [if_neg (by simp; omega)]
/-! ### one query -/
noncomputable def qT (q : TSQuery) : List UInt8 := (if q.Not then NOT else []) ++ joinL AND (q.Features.map ftS)
def FOK (q : TSQuery) : Prop := (∀ f, f ∈ q.Features → Rng f.Num) ∧ q.Features.length ≤ 1000000
theorem feats_w {F : List TSFeature} (h : ∀ f, f ∈ F → Rng f.Num) : wL AND.length (F.map ftS) ≤ 105 * F.length := by
  induction F with
  | nil => simp [wL]
  | cons f r ih =>
    have h1 := (ft_eq f (h f (List.mem_cons_self ..))).2.2
    have h2 := ih fun x hx => h x (List.mem_cons_of_mem _ hx)
    have h5 : AND.length = 5 := rfl
    simp only [wL, List.map_cons, List.sum_cons, List.length_cons, h5] at h2 ⊢
    omega
theorem text_l3 (x : TSQuery) (hx : FOK x) (out : List (List UInt8)) (l : List TSQuery) (v : Int) (K : List (List UInt8) → Option (List UInt8)) : ∀ (N i : Nat), x.Features.length - i < N → i ≤ x.Features.length → media_Text_l3 x out l v K N ((x.Features.take i).map ftS) (i : Int) = K (x.Features.map ftS)
  | 0, i, hN, hi => by omega
  | N + 1, i, hN, hi => by
    have hl := hx.2
    rw [media_Text_l3]
    by_cases h : i < x.Features.length
    · have hf := (ft_eq x.Features[i] (hx.1 _ (List.getElem_mem h))).1
      have e : (x.Features.take i).map ftS ++ [ftS x.Features[i]] = (x.Features.take (i + 1)).map ftS := by
        rw [List.take_add_one, List.getElem?_eq_getElem h, List.map_append]
        rfl
      rw [if_pos (by simp only [decide_eq_true_eq]; omega), at_some h, Option.bind_some, hf, Option.bind_some, appq (by rw [List.length_map, List.length_take]; simp; omega), Option.bind_some, wi_id (by omega) (by omega), show (i : Int) + 1 = ((i + 1 : Nat) : Int) by omega, e]
      exact text_l3 x hx out l v K N (i + 1) (by omega) (by omega)
    · rw [if_neg (by simp only [decide_eq_true_eq]; omega), List.take_of_length_le (by omega)]
theorem qT_len {q : TSQuery} (hq : FOK q) : (qT q).length ≤ 4 + 105 * q.Features.length := by
  have h1 := joinL_len AND (q.Features.map ftS)
  have h2 := feats_w hq.1
  unfold qT
  rw [List.length_append]
  split
  · have : NOT.length = 4 := rfl
    omega
  · simp; omega
theorem text_l2 (l : List TSQuery) (hn : l.length ≤ 1000000) (hq : ∀ q, q ∈ l → FOK q) (K : List (List UInt8) → Option (List UInt8)) : ∀ (N i : Nat), l.length - i < N → i ≤ l.length → media_Text_l2 l K N ((l.take i).map qT) (i : Int) = K (l.map qT)
  | 0, i, hN, hi => by omega
  | N + 1, i, hN, hi => by
    rw [media_Text_l2]
    by_cases h : i < l.length
    · have hqi := hq _ (List.getElem_mem h)
      have hw : wi ((i : Int) + 1) = ((i + 1 : Nat) : Int) := by rw [wi_id (by omega) (by omega)]; omega
      have e : (l.take i).map qT ++ [qT l[i]] = (l.take (i + 1)).map qT := by
        rw [List.take_add_one, List.getElem?_eq_getElem h, List.map_append]
        rfl
      have ih := text_l2 l hn hq K N (i + 1) (by omega) (by omega)
      have j3 : ∀ T, T = qT l[i] → media_Text_j3 (i : Int) l (media_Text_l2 l K N) K ((l.take i).map qT) T = K (l.map qT) := by
        intro T hT
        unfold media_Text_j3
        rw [hT, appq (by rw [List.length_map, List.length_take]; simp; omega), Option.bind_some, hw, e]
        exact ih
      have hfw := feats_w hqi.1
      have hjl := joinL_len AND (l[i].Features.map ftS)
      have h2 := hqi.2
      rw [if_pos (by simp only [decide_eq_true_eq]; omega), at_some h, Option.bind_some]
      refine lim_eq (l[i].Features.length + 1) fun k hk => ?_
      have := text_l3 l[i] hqi ((l.take i).map qT) l (i : Int) (fun fs1 => (strings_Join fs1 [32, 97, 110, 100, 32]).bind fun r_2 => if l[i].Not then (cat? [110, 111, 116, 32] r_2).bind fun r_4 => media_Text_j3 (i : Int) l (media_Text_l2 l K N) K ((l.take i).map qT) r_4 else media_Text_j3 (i : Int) l (media_Text_l2 l K N) K ((l.take i).map qT) r_2) k 0 (by omega) (by omega)
      refine this.trans ?_
      rw [join_eq _ AND (by decide) (by decide) (by omega), Option.bind_some]
      cases hnot : l[i].Not with
      | true =>
        rw [if_pos rfl, catq (by simp; omega), Option.bind_some]
        exact j3 _ (by unfold qT; rw [hnot, if_pos rfl])
      | false =>
        rw [if_neg (by simp)]
        exact j3 _ (by unfold qT; rw [hnot, if_neg (by simp)]; rfl)
    · rw [if_neg (by simp only [decide_eq_true_eq]; omega), List.take_of_length_le (by omega)]
/-! ### the document's text -/
theorem ref_l3 (l : List TSQuery) (i : Nat) (hi : i < l.length) (hq : FOK l[i]) (s : List UInt8) (hs : s.length ≤ 1000000000) (K : List UInt8 → Option (List UInt8)) : ∀ (N k : Nat), l[i].Features.length - k < N → k ≤ l[i].Features.length →
    clerestoryref2_QueriesText_l3 l (i : Int) K N (s ++ joinL AND ((l[i].Features.take k).map ftS)) (k : Int) = K (s ++ joinL AND (l[i].Features.map ftS))
  | 0, k, hN, hk => by omega
  | N + 1, k, hN, hk => by
    have hl := hq.2
    rw [clerestoryref2_QueriesText_l3, at_some hi, Option.bind_some]
    by_cases h : k < l[i].Features.length
    · have hf := (ft_eq l[i].Features[k] (hq.1 _ (List.getElem_mem h))).2
      have hw : wi ((k : Int) + 1) = ((k + 1 : Nat) : Int) := by rw [wi_id (by omega) (by omega)]; omega
      have e : (l[i].Features.take (k + 1)).map ftS = (l[i].Features.take k).map ftS ++ [ftS l[i].Features[k]] := by
        rw [List.take_add_one, List.getElem?_eq_getElem h, List.map_append]
        rfl
      have hsn := joinL_snoc AND ((l[i].Features.take k).map ftS) (ftS l[i].Features[k])
      rw [← e] at hsn
      have hlen := joinL_len AND ((l[i].Features.take k).map ftS)
      have hw2 := feats_w (F := l[i].Features.take k) fun f hm => hq.1 f (List.mem_of_mem_take hm)
      have hmin : (l[i].Features.take k).length ≤ 1000000 := by rw [List.length_take]; omega
      have ih := ref_l3 l i hi hq s hs K N (k + 1) (by omega) (by omega)
      have j15 : ∀ T, T ++ ftS l[i].Features[k] = s ++ joinL AND ((l[i].Features.take (k + 1)).map ftS) → T.length ≤ 3000000000 → clerestoryref2_QueriesText_j15 l (i : Int) (k : Int) (clerestoryref2_QueriesText_l3 l (i : Int) K N) K T = K (s ++ joinL AND (l[i].Features.map ftS)) := by
        intro T hT hTl
        unfold clerestoryref2_QueriesText_j15
        rw [at_some hi, Option.bind_some, at_some h, Option.bind_some, hf.1, Option.bind_some, catq (by have := hf.2; omega), Option.bind_some, hw, hT]
        exact ih
      have h5 : AND.length = 5 := rfl
      rw [if_pos (by simp only [decide_eq_true_eq]; omega)]
      by_cases h0 : k = 0
      · subst h0
        rw [if_neg (by simp)]
        refine j15 _ ?_ (by simp [joinL]; omega)
        rw [hsn]
        simp [joinL]
      · have hne : (l[i].Features.take k).map ftS ≠ [] := by
          intro hz
          have := congrArg List.length hz
          rw [List.length_map, List.length_take, List.length_nil] at this
          omega
        rw [if_pos (by simp only [decide_eq_true_eq]; omega), catq (by rw [List.length_append, h5]; omega), Option.bind_some]
        refine j15 _ ?_ (by simp only [List.length_append, h5]; omega)
        rw [hsn, if_neg hne]
        simp only [List.append_assoc]
    · rw [if_neg (by simp only [decide_eq_true_eq]; omega), List.take_of_length_le (by omega)]
theorem qs_w (L : List TSQuery) (hq : ∀ q, q ∈ L → FOK q) : wL COM.length (L.map qT) ≤ 60 * bulkE (L.map e_TSQuery) := by
  induction L with
  | nil => simp [wL]
  | cons q r ih =>
    have h1 := qT_len (hq q (List.mem_cons_self ..))
    have h2 := ih fun x hx => hq x (List.mem_cons_of_mem _ hx)
    have h3 : bulkE (q.Features.map e_TSFeature) = 2 * q.Features.length := by
      generalize q.Features = F
      induction F with
      | nil => rfl
      | cons f t ih2 => simp only [List.map_cons, bulkE, e_TSFeature, bulkL, bulkC, ih2, List.length_cons, cI]; omega
    have hc : COM.length = 2 := rfl
    simp only [wL, List.map_cons, List.sum_cons, bulkE, e_TSQuery, bulkL, bulkC, h3, hc, cB] at h2 ⊢
    omega
theorem ref_l2 (l : List TSQuery) (hn : l.length ≤ 1000000) (hq : ∀ q, q ∈ l → FOK q) (hW : wL COM.length (l.map qT) ≤ 100000000) (K : List UInt8 → Option (List UInt8)) : ∀ (N i : Nat), l.length - i < N → i ≤ l.length → clerestoryref2_QueriesText_l2 l K N (joinL COM ((l.take i).map qT)) (i : Int) = K (joinL COM (l.map qT))
  | 0, i, hN, hi => by omega
  | N + 1, i, hN, hi => by
    rw [clerestoryref2_QueriesText_l2]
    by_cases h : i < l.length
    · have hqi := hq _ (List.getElem_mem h)
      have h2q := hqi.2
      have hw : wi ((i : Int) + 1) = ((i + 1 : Nat) : Int) := by rw [wi_id (by omega) (by omega)]; omega
      have e : (l.take (i + 1)).map qT = (l.take i).map qT ++ [qT l[i]] := by
        rw [List.take_add_one, List.getElem?_eq_getElem h, List.map_append]
        rfl
      have hsn := joinL_snoc COM ((l.take i).map qT) (qT l[i])
      rw [← e] at hsn
      have hlen := joinL_len COM ((l.take i).map qT)
      have hwt := wL_take COM.length (l.map qT) i
      rw [← List.map_take] at hwt
      have hc : COM.length = 2 := rfl
      have hN4 : NOT.length = 4 := rfl
      have ih := ref_l2 l hn hq hW K N (i + 1) (by omega) (by omega)
      have j12 : ∀ T, T ++ joinL AND (l[i].Features.map ftS) = joinL COM ((l.take (i + 1)).map qT) → T.length ≤ 500000000 → clerestoryref2_QueriesText_j12 l (i : Int) (clerestoryref2_QueriesText_l2 l K N) K T = K (joinL COM (l.map qT)) := by
        intro T hT hTl
        unfold clerestoryref2_QueriesText_j12
        refine lim_eq (l[i].Features.length + 1) fun k hk => ?_
        have := ref_l3 l i h hqi T (by omega) (fun s_5 => clerestoryref2_QueriesText_l2 l K N s_5 (wi ((i : Int) + 1))) k 0 (by omega) (by omega)
        have e0 : T ++ joinL AND ((l[i].Features.take 0).map ftS) = T := by simp [joinL]
        rw [e0] at this
        refine this.trans ?_
        rw [hw, hT]
        exact ih
      have j11 : ∀ T, T ++ qT l[i] = joinL COM ((l.take (i + 1)).map qT) → T.length ≤ 400000000 → clerestoryref2_QueriesText_j11 l (i : Int) (clerestoryref2_QueriesText_l2 l K N) K T = K (joinL COM (l.map qT)) := by
        intro T hT hTl
        unfold clerestoryref2_QueriesText_j11
        rw [at_some h, Option.bind_some]
        unfold qT at hT
        cases hnot : l[i].Not with
        | true =>
          rw [hnot, if_pos rfl, ← List.append_assoc] at hT
          rw [if_pos rfl, catq (by rw [hN4]; omega), Option.bind_some]
          exact j12 _ hT (by rw [List.length_append, hN4]; omega)
        | false =>
          rw [hnot, if_neg (by simp), List.nil_append] at hT
          rw [if_neg (by simp)]
          exact j12 _ hT (by omega)
      rw [if_pos (by simp only [decide_eq_true_eq]; omega)]
      by_cases h0 : i = 0
      · subst h0
        rw [if_neg (by simp)]
        refine j11 _ ?_ (by simp [joinL])
        rw [hsn]
        simp [joinL]
      · have hne : (l.take i).map qT ≠ [] := by
          intro hz
          have := congrArg List.length hz
          rw [List.length_map, List.length_take, List.length_nil] at this
          omega
        rw [if_pos (by simp only [decide_eq_true_eq]; omega), catq (by rw [hc]; omega), Option.bind_some]
        refine j11 _ ?_ (by rw [List.length_append, hc]; omega)
        rw [hsn, if_neg hne]
    · rw [if_neg (by simp only [decide_eq_true_eq]; omega), List.take_of_length_le (by omega)]
theorem pureMediaTells : PureMediaTells := by
  intro l hok hb
  simp only [bulkVs, bulkV, bulkC] at hb
  have hbq : ∀ L : List TSQuery, 2 * L.length + 2 * (L.map fun q => q.Features.length).sum ≤ bulkE (L.map e_TSQuery) := by
    intro L
    induction L with
    | nil => simp [bulkE]
    | cons q r ih =>
      have h3 : bulkE (q.Features.map e_TSFeature) = 2 * q.Features.length := by
        generalize q.Features = F
        induction F with
        | nil => rfl
        | cons f t ih2 => simp only [List.map_cons, bulkE, e_TSFeature, bulkL, bulkC, ih2, List.length_cons, cI]; omega
      simp only [List.map_cons, List.sum_cons, List.length_cons, bulkE, e_TSQuery, bulkL, bulkC, h3, cB] at ih ⊢
      omega
  have h1 := hbq l
  have hq : ∀ q, q ∈ l → FOK q := by
    intro q hm
    refine ⟨fun f hf => ?_, ?_⟩
    · exact ok_i64 ((hok.2 q hm).2.2 f hf).2
    · have hsum : ∀ L : List TSQuery, q ∈ L → q.Features.length ≤ (L.map fun q => q.Features.length).sum := by
        intro L
        induction L with
        | nil => intro h; cases h
        | cons x r ih =>
          intro h
          rw [List.map_cons, List.sum_cons]
          rcases List.mem_cons.1 h with rfl | h
          · omega
          · have := ih h; omega
      have := hsum l hm
      omega
  have hW := qs_w l hq
  have hn : l.length ≤ 1000000 := by omega
  have hT : media_Text l = some (joinL COM (l.map qT)) := by
    unfold media_Text
    refine lim_eq (l.length + 1) fun k hk => ?_
    refine (text_l2 l hn hq (fun out1 => (strings_Join out1 [44, 32]).bind fun r_5 => some r_5) k 0 (by omega) (by omega)).trans ?_
    rw [join_eq _ COM (by decide) (by decide) (by omega), Option.bind_some]
  have hR : clerestoryref2_QueriesText l = some (joinL COM (l.map qT)) := by
    unfold clerestoryref2_QueriesText
    refine lim_eq (l.length + 1) fun k hk => ?_
    exact ref_l2 l hn hq (by omega) (fun s_1 => some s_1) k 0 (by omega) (by omega)
  unfold clerestorylaw2_MediaTells
  rw [wide_eq, Option.bind_some, if_pos rfl, hT, Option.bind_some, hR, Option.bind_some]
  unfold clerestorylaw2_MediaTells_j1
  simp
end Go.Proofs.YtaejmblphhjccabGreatDoorBv
