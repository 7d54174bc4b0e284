/- A script's signs, blanks and the run over all tokens: the program's and the document's. No program is in sight. -/
import Derived.Test.YtagfmlkihindaaaDoorJTokJlexSays
namespace Go.Proofs.YtagfmlkihindaaaDoorBv
open Go
set_option linter.unusedSimpArgs false
set_option linter.unusedVariables false
/-! ### signs -/
def sixL : List (List UInt8) := [[61, 61], [33, 61], [60, 61], [62, 61], [38, 38], [124, 124]]
def oneS : List UInt8 := [61, 33, 60, 62, 43, 45, 42, 47, 37, 40, 41, 91, 93, 123, 125, 44, 59, 58, 46, 63]
def signsL : List (List UInt8) := Lib.fields [61, 61, 32, 33, 61, 32, 60, 61, 32, 62, 61, 32, 38, 38, 32, 124, 124, 32, 61, 32, 33, 32, 60, 32, 62, 32, 43, 32, 45, 32, 42, 32, 47, 32, 37, 32, 40, 32, 41, 32, 91, 32, 93, 32, 123, 32, 125, 32, 44, 32, 59, 32, 58, 32, 46, 32, 63]
theorem signs_eq : strings_Fields [61, 61, 32, 33, 61, 32, 60, 61, 32, 62, 61, 32, 38, 38, 32, 124, 124, 32, 61, 32, 33, 32, 60, 32, 62, 32, 43, 32, 45, 32, 42, 32, 47, 32, 37, 32, 40, 32, 41, 32, 91, 32, 93, 32, 123, 32, 125, 32, 44, 32, 59, 32, 58, 32, 46, 32, 63] = some signsL := by
  show fields? _ = _
  unfold fields?
  rw [if_pos (by decide)]
  rfl
theorem signsL_eq : signsL = sixL ++ oneS.map fun c => [c] := by decide +kernel
theorem signs_two {t : List UInt8} (h : t.length = 2) : t ∈ signsL ↔ t ∈ sixL := by
  rw [signsL_eq, List.mem_append]
  constructor
  · rintro (h1 | h1)
    · exact h1
    · rw [List.mem_map] at h1
      obtain ⟨c, _, rfl⟩ := h1
      simp at h
  · exact Or.inl
theorem signs_one (c : UInt8) : [c] ∈ signsL ↔ c ∈ oneS := by
  rw [signsL_eq, List.mem_append]
  constructor
  · rintro (h1 | h1)
    · simp [sixL] at h1
    · rw [List.mem_map] at h1
      obtain ⟨d, h2, h3⟩ := h1
      simp only [List.cons.injEq, and_true] at h3
      rw [← h3]; exact h2
  · intro h; right; exact List.mem_map.2 ⟨c, h, rfl⟩
theorem six_len {w : List UInt8} (h : w ∈ sixL) : w.length = 2 := by
  simp only [sixL, List.mem_cons, List.not_mem_nil, or_false] at h
  rcases h with rfl | rfl | rfl | rfl | rfl | rfl <;> rfl
theorem one_small (c : UInt8) : (c ∈ oneS → c.toNat < 128) ∧ (decide (0 ≤ Lib.indexByte oneS c) = decide (c ∈ oneS)) := by
  have := u8_all (p := fun c => decide ((c ∈ oneS → c.toNat < 128) ∧ (decide (0 ≤ Lib.indexByte oneS c) = decide (c ∈ oneS)))) (by decide +kernel) c
  exact of_decide_eq_true this
def sigF (t : List UInt8) : List UInt8 :=
  if t.take 2 ∈ sixL then t.take 2 else match t with
    | c :: _ => if c ∈ oneS then [c] else []
    | [] => []
theorem sign_step (s : List UInt8) (hl : s.length ≤ 2000) (p : Nat) (hp : p < s.length) (o : List TJTok) (K : List TJTok → Option (TJTok × Int × Treader)) (k v x : Nat) (hv : v < 2) (hx : at? [2, 1] (v : Int) = some (x : Int)) (hx2 : x ≤ 2) :
    clerestory_jlex_reader_sign1_l0 ⟨s, (p : Int), o⟩ K (k + 1) o (v : Int) = if p + x ≤ s.length ∧ (s.drop p).take x ∈ signsL then some (⟨4, 0, 0, (s.drop p).take x, 0⟩, 0, ⟨s, ((p + x : Nat) : Int), o⟩) else clerestory_jlex_reader_sign1_l0 ⟨s, (p : Int), o⟩ K k o ((v + 1 : Nat) : Int) := by
  rw [clerestory_jlex_reader_sign1_l0, if_pos (by simp only [decide_eq_true_eq]; omega), hx, Option.bind_some]
  have e1 : wi ((p : Int) + (x : Int)) = ((p + x : Nat) : Int) := by rw [wi_id (by omega) (by omega)]; omega
  have e2 : wi ((v : Int) + 1) = ((v + 1 : Nat) : Int) := by rw [wi_id (by omega) (by omega)]; omega
  simp only [e1]
  unfold clerestory_jlex_reader_sign1_j3
  rw [e2]
  by_cases h : p + x ≤ s.length
  · rw [if_neg (by simp only [decide_eq_true_eq]; omega), sub_nat (by omega) h, Option.bind_some, signs_eq, Option.bind_some, contains_eq _ _ (by decide +kernel), Option.bind_some, List.drop_take, Nat.add_sub_cancel_left]
    by_cases h2 : (s.drop p).take x ∈ signsL
    · rw [if_pos (by simpa using h2), if_pos ⟨h, h2⟩]
    · rw [if_neg (by simpa using h2), if_neg (by rintro ⟨_, h3⟩; exact h2 h3)]
  · rw [if_pos (by simp only [decide_eq_true_eq]; omega), if_neg (by rintro ⟨h3, _⟩; exact h h3)]
theorem sign_eq (s : List UInt8) (hl : s.length ≤ 2000) (p : Nat) (hp : p < s.length) (o : List TJTok) : clerestory_jlex_reader_sign1 ⟨s, (p : Int), o⟩ = some (if sigF (s.drop p) = [] then (⟨0, 0, 0, [], 0⟩, 4, ⟨s, (p : Int), o⟩) else (⟨4, 0, 0, sigF (s.drop p), 0⟩, 0, ⟨s, ((p + (sigF (s.drop p)).length : Nat) : Int), o⟩)) := by
  unfold clerestory_jlex_reader_sign1
  refine lim_add 3 fun m => ?_
  have hd : s.drop p = s[p] :: s.drop (p + 1) := List.drop_eq_getElem_cons hp
  have s1 := sign_step s hl p hp o (fun (r21 : (List TJTok)) => some ((⟨0, 0, 0, [], 0⟩ : TJTok), 4, (⟨s, (p : Int), r21⟩ : Treader))) (m + 2) 0 2 (by omega) rfl (by omega)
  refine s1.trans ?_
  by_cases h1 : p + 2 ≤ s.length ∧ (s.drop p).take 2 ∈ signsL
  · rw [if_pos h1]
    have h2 := (signs_two (t := (s.drop p).take 2) (by rw [List.length_take, List.length_drop]; omega)).1 h1.2
    have h3 : sigF (s.drop p) = (s.drop p).take 2 := by unfold sigF; rw [if_pos h2]
    have h4 := six_len h2
    rw [h3, if_neg (by intro h; rw [h] at h4; simp at h4), h4]
  · rw [if_neg h1]
    have h2 : ¬ (s.drop p).take 2 ∈ sixL := by
      intro h
      have h4 := six_len h
      rw [List.length_take, List.length_drop] at h4
      exact h1 ⟨by omega, by rw [signsL_eq]; exact List.mem_append.2 (Or.inl h)⟩
    have s2 := sign_step s hl p hp o (fun (r21 : (List TJTok)) => some ((⟨0, 0, 0, [], 0⟩ : TJTok), 4, (⟨s, (p : Int), r21⟩ : Treader))) (m + 1) 1 1 (by omega) rfl (by omega)
    refine s2.trans ?_
    have h3 : (s.drop p).take 1 = [s[p]] := by rw [hd]; rfl
    have h5 : sigF (s.drop p) = if s[p] ∈ oneS then [s[p]] else [] := by
      unfold sigF
      rw [if_neg h2, hd]
    rw [h3, h5]
    by_cases h6 : s[p] ∈ oneS
    · rw [if_pos ⟨by omega, (signs_one _).2 h6⟩, if_pos h6, if_neg (by simp)]
      rfl
    · rw [if_neg (by rintro ⟨_, h⟩; exact h6 ((signs_one _).1 h)), if_neg h6, if_pos rfl, clerestory_jlex_reader_sign1_l0, if_neg (by simp)]
theorem hasPre_eq (a b : List UInt8) : strings_HasPrefix a b = some (decide (a.take b.length = b)) := by
  unfold strings_HasPrefix internal_stringslite_HasPrefix internal_stringslite_HasPrefix_j1
  by_cases h : b.length ≤ a.length
  · rw [if_pos (by simp only [decide_eq_true_eq]; omega), sub_take h, Option.bind_some, Option.bind_some]
  · rw [if_neg (by simp only [decide_eq_true_eq]; omega), Option.bind_some]
    have : ¬ a.take b.length = b := by
      intro hh
      have := congrArg List.length hh
      rw [List.length_take] at this
      omega
    simp [this]
theorem signAt_loop (t : List UInt8) (K : Unit → Option (List UInt8)) : ∀ (d v : Nat), v + d = 6 → ∀ m, clerestoryref4_signAt_l0 t K (m + d + 1) (v : Int) = if t.take 2 ∈ sixL.drop v then some (t.take 2) else K ()
  | 0, v, hv, m => by
    rw [clerestoryref4_signAt_l0, letIn_eq, if_neg (by simp only [decide_eq_true_eq, List.length_cons, List.length_nil]; omega), List.drop_eq_nil_of_le (by show 6 ≤ v; omega), if_neg (by simp)]
  | d + 1, v, hv, m => by
    have h : v < sixL.length := by show v < 6; omega
    have hl2 := six_len (List.getElem_mem h)
    rw [clerestoryref4_signAt_l0, letIn_eq, if_pos (by simp only [decide_eq_true_eq, List.length_cons, List.length_nil]; omega)]
    refine (congrArg (fun z => Option.bind z _) (show at? sixL (v : Int) = some sixL[v] from at_some h)).trans ?_
    rw [Option.bind_some, hasPre_eq, Option.bind_some, hl2, List.drop_eq_getElem_cons h]
    by_cases hp : t.take 2 = sixL[v]
    · rw [if_pos (by simpa using hp), if_pos (by rw [hp]; exact List.mem_cons_self), hp]
    · rw [if_neg (by simpa using hp), wi_id (by omega) (by omega), show (v : Int) + 1 = ((v + 1 : Nat) : Int) by omega]
      refine (signAt_loop t K d (v + 1) (by omega) m).trans ?_
      by_cases hh : t.take 2 ∈ sixL.drop (v + 1)
      · rw [if_pos hh, if_pos (List.mem_cons_of_mem _ hh)]
      · rw [if_neg hh, if_neg (by
          rw [List.mem_cons]
          rintro (h' | h')
          · exact hp h'
          · exact hh h')]
theorem signAt_eq (t : List UInt8) (ht : t ≠ []) : clerestoryref4_signAt t = some (sigF t) := by
  unfold clerestoryref4_signAt
  refine lim_add 7 fun m => ?_
  refine (signAt_loop t _ 6 0 (by omega) m).trans ?_
  rw [List.drop_zero]
  unfold sigF
  by_cases h : t.take 2 ∈ sixL
  · rw [if_pos h, if_pos h]
  · rw [if_neg h, if_neg h]
    match t, ht with
    | c :: r, _ =>
      have e0 : at? (c :: r) 0 = some c := rfl
      have e1 : sub? (c :: r) 0 1 = some [c] := by
        have := sub_take (l := c :: r) (b := 1) (by simp)
        exact this
      unfold clerestoryref4_signAt_j1
      simp only [e0, e1, Option.bind_some]
      obtain ⟨o1, o2⟩ := one_small c
      by_cases hc : c.toNat < 128
      · rw [if_pos (by simp only [decide_eq_true_eq]; omega)]
        rw [show strings_Contains [61, 33, 60, 62, 43, 45, 42, 47, 37, 40, 41, 91, 93, 123, 125, 44, 59, 58, 46, 63] [c] = some (decide (0 ≤ Lib.indexByte oneS c)) from rfl, Option.bind_some, o2]
        by_cases hm : c ∈ oneS
        · rw [if_pos (by simpa using hm), if_pos hm]
        · rw [if_neg (by simpa using hm), if_neg hm]
      · rw [if_neg (by simp only [decide_eq_true_eq]; omega), if_neg (by simp), if_neg (by intro hm; exact hc (o1 hm))]
/-! ### blanks -/
def nlB (c : UInt8) : Bool := !decide ((c.toNat : Int) = 10)
theorem indexByte_tw : ∀ (l : List UInt8), Lib.indexByte l 10 = if (l.takeWhile nlB).length < l.length then ((l.takeWhile nlB).length : Int) else -1
  | [] => rfl
  | c :: r => by
    rw [Lib.indexByte, List.takeWhile_cons]
    by_cases hc : c = 10
    · subst hc
      have hn : nlB 10 = false := rfl
      rw [if_pos (by decide)]
      simp only [hn, Bool.false_eq_true, if_false]
      rw [if_pos (by simp)]
      rfl
    · have hn : nlB c = true := by
        unfold nlB
        have : ¬ (c.toNat : Int) = 10 := by
          intro h
          exact hc ((u8_eq (c := c) (n := 10) (by omega)).1 (by omega))
        simp [this]
      rw [if_neg (by simpa using hc), if_pos hn, indexByte_tw r, List.length_cons, List.length_cons]
      have := tw_le nlB r
      by_cases h : (r.takeWhile nlB).length < r.length
      · rw [if_pos h, if_neg (by simp), if_pos (by omega)]
        rfl
      · rw [if_neg h, if_pos (by decide), if_neg (by omega)]
theorem line_prog (s : List UInt8) (hl : s.length ≤ 2000) (p : Nat) (hp : p ≤ s.length) (o : List TJTok) (q : Treader) (hq : q.f_s = s) (self K : Int → List TJTok → Option Treader) : clerestory_jlex_reader_skip1_j5 q (p : Int) self K o true = self (rl nlB s p : Int) o := by
  unfold clerestory_jlex_reader_skip1_j5 clerestory_jlex_reader_skip1_j6
  rw [if_pos rfl, hq, sub_drop hp, Option.bind_some, show strings_IndexByte (s.drop p) 10 = some (Lib.indexByte (s.drop p) 10) from rfl, Option.bind_some, indexByte_tw]
  have hr := rl_le nlB s p hp
  have hlen : (s.drop p).length = s.length - p := List.length_drop
  unfold rl at hr ⊢
  by_cases h : ((s.drop p).takeWhile nlB).length < (s.drop p).length
  · rw [if_pos h, if_neg (by simp), wi_id (by omega) (by omega)]
    rfl
  · rw [if_neg h, if_pos (by simp), wi_id (n := (s.length : Int) - (p : Int)) (by omega) (by omega), wi_id (by omega) (by omega)]
    congr 1
    omega
theorem line_ref (s : List UInt8) (hl : s.length ≤ 2000) (K : List TJTok → Int → Option (List TJTok × Int)) (o : List TJTok) : ∀ (d p : Nat), p + d = s.length → ∀ m, clerestoryref4_Tokened_l25 s K (m + d + 1) o (p : Int) = K o (rl nlB s p : Int)
  | 0, p, hp, m => by
    rw [clerestoryref4_Tokened_l25, if_neg (by simp only [decide_eq_true_eq]; omega), rl_end (by omega)]
    rfl
  | d + 1, p, hp, m => by
    have h : p < s.length := by omega
    rw [clerestoryref4_Tokened_l25, if_pos (by simp only [decide_eq_true_eq]; omega), at_some h, Option.bind_some]
    unfold clerestoryref4_Tokened_j86
    cases hn : nlB s[p] with
    | true =>
      rw [if_pos (show (!decide ((s[p].toNat : Int) = 10)) = true from hn), wi_id (by omega) (by omega), show (p : Int) + 1 = ((p + 1 : Nat) : Int) by omega, rl_step h hn]
      exact line_ref s hl K o d (p + 1) (by omega) m
    | false => rw [if_neg (by rw [show (!decide ((s[p].toNat : Int) = 10)) = false from hn]; simp), rl_stop h hn]
theorem name_ref (s : List UInt8) (hl : s.length ≤ 2000) (a : Int) (K : List TJTok → Int → Option (List TJTok × Int)) (o : List TJTok) : ∀ (d p : Nat), p + d = s.length → ∀ m, clerestoryref4_Tokened_l27 s a K (m + d + 1) o (p : Int) = K o (rl nameB s p : Int)
  | 0, p, hp, m => by
    rw [clerestoryref4_Tokened_l27, if_neg (by simp only [decide_eq_true_eq]; omega), rl_end (by omega)]
    rfl
  | d + 1, p, hp, m => by
    have h : p < s.length := by omega
    rw [clerestoryref4_Tokened_l27, if_pos (by simp only [decide_eq_true_eq]; omega), at_some h, Option.bind_some, nameByte_eq]
    unfold clerestoryref4_Tokened_j93
    cases hn : nameB s[p] with
    | true =>
      rw [if_pos rfl, wi_id (by omega) (by omega), show (p : Int) + 1 = ((p + 1 : Nat) : Int) by omega, rl_step h hn]
      exact name_ref s hl a K o d (p + 1) (by omega) m
    | false => rw [if_neg (by simp), rl_stop h hn]
def commB (s : List UInt8) (p : Nat) : Bool := decide ((s.drop p).take 2 = [47, 47])
theorem comm_pk (s : List UInt8) (p : Nat) (h : p < s.length) : commB s p = (decide (s[p].toNat = 47) && decide (pk s (p + 1) = 47)) := by
  unfold commB
  rw [List.drop_eq_getElem_cons h]
  have h0 : s[p].toNat = 47 ↔ s[p] = 47 := by
    constructor
    · intro hh; exact (u8_eq (c := s[p]) (n := 47) (by omega)).1 (by omega)
    · intro hh; rw [hh]; rfl
  by_cases h1 : p + 1 < s.length
  · rw [List.drop_eq_getElem_cons h1, pk_in h1]
    have h2 : (s[p + 1].toNat : Int) = 47 ↔ s[p + 1] = 47 := by
      constructor
      · intro hh; exact (u8_eq (c := s[p + 1]) (n := 47) (by omega)).1 (by omega)
      · intro hh; rw [hh]; rfl
    show decide ([s[p], s[p + 1]] = [47, 47]) = _
    rw [Bool.eq_iff_iff]
    simp [h0, h2]
  · rw [List.drop_eq_nil_of_le (by omega), pk_out (by omega)]
    simp
theorem ref_blank (s : List UInt8) (hl : s.length ≤ 2000) (p : Nat) (h : p < s.length) (hb : blankB s[p] = true) (K : List TJTok → Option (List TJTok × Int)) (o : List TJTok) (m : Nat) : clerestoryref4_Tokened_l18 s K (m + 1) o (p : Int) = clerestoryref4_Tokened_l18 s K m o ((p + 1 : Nat) : Int) := by
  rw [clerestoryref4_Tokened_l18, if_pos (by simp only [decide_eq_true_eq]; omega), at_some h, Option.bind_some, if_pos (show ((((decide ((s[p].toNat : Int) = 32)) || (decide ((s[p].toNat : Int) = 9))) || (decide ((s[p].toNat : Int) = 10))) || (decide ((s[p].toNat : Int) = 13))) = true from hb), wi_id (by omega) (by omega)]
  rfl
theorem ref_line (s : List UInt8) (hl : s.length ≤ 2000) (p : Nat) (h : p < s.length) (hb : blankB s[p] = false) (hc : commB s p = true) (K : List TJTok → Option (List TJTok × Int)) (o : List TJTok) (m : Nat) : clerestoryref4_Tokened_l18 s K (m + 1) o (p : Int) = clerestoryref4_Tokened_l18 s K m o (rl nlB s p : Int) := by
  rw [clerestoryref4_Tokened_l18, if_pos (by simp only [decide_eq_true_eq]; omega), at_some h, Option.bind_some, if_neg (by rw [show ((((decide ((s[p].toNat : Int) = 32)) || (decide ((s[p].toNat : Int) = 9))) || (decide ((s[p].toNat : Int) = 10))) || (decide ((s[p].toNat : Int) = 13))) = false from hb]; simp), sub_drop (by omega), Option.bind_some, hasPre_eq, Option.bind_some, if_pos (show decide ((s.drop p).take ([47, 47] : List UInt8).length = [47, 47]) = true from hc)]
  exact lim_add (s.length - p + 1) fun m' => line_ref s hl _ o (s.length - p) p (by omega) m'
theorem skip_joint (s : List UInt8) (hl : s.length ≤ 2000) (K2 : List TJTok → Option (List TJTok × Int)) : ∀ (d p : Nat), s.length ≤ p + d → p ≤ s.length →
    ∃ e : Nat, p ≤ e ∧ e ≤ s.length ∧ (∀ h : e < s.length, blankB s[e] = false ∧ commB s e = false) ∧
      (∀ (q : Treader) (K : Int → List TJTok → Option Treader), q.f_s = s → (∀ r o, K r o = some ⟨s, r, o⟩) → ∀ o m, clerestory_jlex_reader_skip1_l0 q K (m + d + 1) (p : Int) o = some ⟨s, (e : Int), o⟩) ∧
      ∀ o, ∃ N, ∀ m, clerestoryref4_Tokened_l18 s K2 (m + N) o (p : Int) = clerestoryref4_Tokened_l18 s K2 m o (e : Int)
  | 0, p, hd, hp => by
    refine ⟨p, Nat.le_refl _, hp, fun h => by omega, fun q K hq hK o m => ?_, fun o => ⟨0, fun m => rfl⟩⟩
    rw [clerestory_jlex_reader_skip1_l0, hq, if_neg (by simp only [decide_eq_true_eq]; omega), hK]
  | d + 1, p, hd, hp => by
    by_cases h : p < s.length
    · cases hb : blankB s[p] with
      | true =>
        obtain ⟨e, h1, h2, h3, h4, h5⟩ := skip_joint s hl K2 d (p + 1) (by omega) (by omega)
        refine ⟨e, by omega, h2, h3, fun q K hq hK o m => ?_, fun o => ?_⟩
        · rw [show m + (d + 1) + 1 = (m + d + 1) + 1 by omega, clerestory_jlex_reader_skip1_l0, hq, if_pos (by simp only [decide_eq_true_eq]; omega), at_some h, Option.bind_some, if_pos (show ((((decide ((s[p].toNat : Int) = 32)) || (decide ((s[p].toNat : Int) = 9))) || (decide ((s[p].toNat : Int) = 10))) || (decide ((s[p].toNat : Int) = 13))) = true from hb), wi_id (by omega) (by omega)]
          exact h4 q K hq hK o m
        · obtain ⟨N, hN⟩ := h5 o
          refine ⟨N + 1, fun m => ?_⟩
          rw [show m + (N + 1) = (m + N) + 1 by omega, ref_blank s hl p h hb]
          exact hN m
      | false =>
        have hbi : ¬ (((((decide ((s[p].toNat : Int) = 32)) || (decide ((s[p].toNat : Int) = 9))) || (decide ((s[p].toNat : Int) = 10))) || (decide ((s[p].toNat : Int) = 13))) = true) := by
          rw [show ((((decide ((s[p].toNat : Int) = 32)) || (decide ((s[p].toNat : Int) = 9))) || (decide ((s[p].toNat : Int) = 10))) || (decide ((s[p].toNat : Int) = 13))) = false from hb]; simp
        cases hc : commB s p with
        | true =>
          have hcp := comm_pk s p h
          rw [hc] at hcp
          have hcp := hcp.symm
          rw [Bool.and_eq_true, decide_eq_true_eq, decide_eq_true_eq] at hcp
          have hn : nlB s[p] = true := by unfold nlB; rw [hcp.1]; rfl
          have hr := rl_le nlB s (p + 1) (by omega)
          have hr1 := rl_step h hn
          obtain ⟨e, h1, h2, h3, h4, h5⟩ := skip_joint s hl K2 d (rl nlB s p) (by omega) (by omega)
          refine ⟨e, by omega, h2, h3, fun q K hq hK o m => ?_, fun o => ?_⟩
          · rw [show m + (d + 1) + 1 = (m + d + 1) + 1 by omega, clerestory_jlex_reader_skip1_l0, hq, if_pos (by simp only [decide_eq_true_eq]; omega), at_some h, Option.bind_some, if_neg hbi, if_pos (by simp only [decide_eq_true_eq]; omega)]
            have hk := peek_eq s hl p 1 (by omega) (by omega) o
            rw [show ((1 : Nat) : Int) = 1 from rfl] at hk
            rw [hk, Option.bind_some, hcp.2, show decide ((47 : Int) = 47) = true from rfl, line_prog s hl p (by omega) o q hq]
            exact h4 q K hq hK o m
          · obtain ⟨N, hN⟩ := h5 o
            refine ⟨N + 1, fun m => ?_⟩
            rw [show m + (N + 1) = (m + N) + 1 by omega, ref_line s hl p h hb hc]
            exact hN m
        | false =>
          refine ⟨p, Nat.le_refl _, hp, fun _ => ⟨hb, hc⟩, fun q K hq hK o m => ?_, fun o => ⟨0, fun m => rfl⟩⟩
          have hj : ∀ self, clerestory_jlex_reader_skip1_j5 q (p : Int) self K o false = some ⟨s, (p : Int), o⟩ := by
            intro self
            unfold clerestory_jlex_reader_skip1_j5
            rw [if_neg (by simp), hq]
          have hcp := comm_pk s p h
          rw [hc] at hcp
          rw [clerestory_jlex_reader_skip1_l0, hq, if_pos (by simp only [decide_eq_true_eq]; omega), at_some h, Option.bind_some, if_neg hbi]
          by_cases h47 : s[p].toNat = 47
          · rw [if_pos (by simp only [decide_eq_true_eq]; omega)]
            have hk := peek_eq s hl p 1 (by omega) (by omega) o
            rw [show ((1 : Nat) : Int) = 1 from rfl] at hk
            have : decide (pk s (p + 1) = 47) = false := by
              rw [show decide (s[p].toNat = 47) = true by simpa using h47, Bool.true_and] at hcp
              exact hcp.symm
            rw [hk, Option.bind_some, this, hj]
          · rw [if_neg (by simp only [decide_eq_true_eq]; omega), hj]
    · refine ⟨p, Nat.le_refl _, hp, fun h' => absurd h' h, fun q K hq hK o m => ?_, fun o => ⟨0, fun m => rfl⟩⟩
      rw [clerestory_jlex_reader_skip1_l0, hq, if_neg (by simp only [decide_eq_true_eq]; omega), hK]
theorem skip_eq (s : List UInt8) (hl : s.length ≤ 2000) (K2 : List TJTok → Option (List TJTok × Int)) (p : Nat) (hp : p ≤ s.length) :
    ∃ e : Nat, p ≤ e ∧ e ≤ s.length ∧ (∀ h : e < s.length, blankB s[e] = false ∧ commB s e = false) ∧
      (∀ o, clerestory_jlex_reader_skip1 ⟨s, (p : Int), o⟩ = some ⟨s, (e : Int), o⟩) ∧
      ∀ o, ∃ N, ∀ m, clerestoryref4_Tokened_l18 s K2 (m + N) o (p : Int) = clerestoryref4_Tokened_l18 s K2 m o (e : Int) := by
  obtain ⟨e, h1, h2, h3, h4, h5⟩ := skip_joint s hl K2 (s.length - p) p (by omega) hp
  refine ⟨e, h1, h2, h3, fun o => ?_, h5⟩
  unfold clerestory_jlex_reader_skip1
  exact lim_add (s.length - p + 1) fun m => h4 ⟨s, (p : Int), o⟩ _ rfl (fun r o => rfl) o m
/-! ### one token -/
theorem letter_zero : jlex_letter 0 = false := rfl
theorem tok_joint (s : List UInt8) (hl : s.length ≤ 2000) (K2 : List TJTok → Option (List TJTok × Int)) (p : Nat) (h : p < s.length) (hb : blankB s[p] = false) (hc : commB s p = false) (o : List TJTok) :
    (∃ (k n : Int) (w : List UInt8) (e : Nat), p < e ∧ e ≤ s.length ∧ clerestory_jlex_reader_next1 ⟨s, (p : Int), o⟩ = some (⟨k, 0, 0, w, n⟩, 0, ⟨s, (e : Int), o⟩) ∧ ∀ m, clerestoryref4_Tokened_l18 s K2 (m + 1) o (p : Int) = clerestoryref4_Tokened_j83 (p : Int) s (clerestoryref4_Tokened_l18 s K2 m) K2 o k w n (e : Int)) ∨
    (∃ (er r : Int) (t : TJTok), er ≠ 0 ∧ clerestory_jlex_reader_next1 ⟨s, (p : Int), o⟩ = some (t, er, ⟨s, r, o⟩) ∧ ∀ m, clerestoryref4_Tokened_l18 s K2 (m + 1) o (p : Int) = some ([], er)) := by
  have hbi : ¬ (((((decide ((s[p].toNat : Int) = 32)) || (decide ((s[p].toNat : Int) = 9))) || (decide ((s[p].toNat : Int) = 10))) || (decide ((s[p].toNat : Int) = 13))) = true) := by
    rw [show ((((decide ((s[p].toNat : Int) = 32)) || (decide ((s[p].toNat : Int) = 9))) || (decide ((s[p].toNat : Int) = 10))) || (decide ((s[p].toNat : Int) = 13))) = false from hb]; simp
  have hk := peek_eq s hl p 0 (by omega) (by omega) o
  rw [show ((0 : Nat) : Int) = 0 from rfl, Nat.add_zero, pk_in h] at hk
  have hnext : clerestory_jlex_reader_next1 ⟨s, (p : Int), o⟩ = if letB s[p] then (clerestory_jlex_reader_name1 ⟨s, (p : Int), o⟩).bind fun r_2 => some (r_2.1, 0, r_2.2)
      else if digB s[p] then (clerestory_jlex_reader_number1 ⟨s, (p : Int), o⟩).bind fun r_3 => some (r_3.1, r_3.2.1, r_3.2.2)
      else if decide ((s[p].toNat : Int) = 34) then (clerestory_jlex_reader_text1 ⟨s, (p : Int), o⟩).bind fun r_4 => some (r_4.1, r_4.2.1, r_4.2.2)
      else (clerestory_jlex_reader_sign1 ⟨s, (p : Int), o⟩).bind fun r_5 => some (r_5.1, r_5.2.1, r_5.2.2) := by
    unfold clerestory_jlex_reader_next1
    rw [hk, Option.bind_some]
    rfl
  have href : ∀ m, clerestoryref4_Tokened_l18 s K2 (m + 1) o (p : Int) =
      if digB s[p] then
            lim fun kk1 => clerestoryref4_Tokened_l26 s (p : Int) (fun (out7 : (List TJTok)) (t42 : Int) (end_2 : Int) => 
                if decide (end_2 < (s.length : Int)) then
                  (at? s end_2).bind fun c_4 =>
                  clerestoryref4_Tokened_j90 (p : Int) s t42 end_2 (clerestoryref4_Tokened_l18 s K2 m) K2 out7 (clerestoryref4_nameByte (c_4.toNat : Int))
                else
                  clerestoryref4_Tokened_j90 (p : Int) s t42 end_2 (clerestoryref4_Tokened_l18 s K2 m) K2 out7 false) kk1 o 0 (p : Int)
          else
            if nameB s[p] then
              lim fun kk2 => clerestoryref4_Tokened_l27 s (p : Int) (fun (out11 : (List TJTok)) (end_4 : Int) => 
                  (sub? s (p : Int) end_4).bind fun r_3 =>
                  (clerestoryref4_isWord r_3).bind fun r_4 =>
                  if r_4 then
                    clerestoryref4_Tokened_j83 (p : Int) s (clerestoryref4_Tokened_l18 s K2 m) K2 out11 5 r_3 0 end_4
                  else
                    clerestoryref4_Tokened_j83 (p : Int) s (clerestoryref4_Tokened_l18 s K2 m) K2 out11 1 r_3 0 end_4) kk2 o (p : Int)
            else
              if decide ((s[p].toNat : Int) = 34) then
                (clerestoryref4_textAt s (p : Int)).bind fun r_5 =>
                if decide (r_5.2 < 0) then
                  some (([] : List TJTok), 4)
                else
                  clerestoryref4_Tokened_j83 (p : Int) s (clerestoryref4_Tokened_l18 s K2 m) K2 o 3 r_5.1 0 r_5.2
              else
                (clerestoryref4_signAt (s.drop p)).bind fun r_7 =>
                if decide (r_7 = []) then
                  some (([] : List TJTok), 4)
                else
                  clerestoryref4_Tokened_j83 (p : Int) s (clerestoryref4_Tokened_l18 s K2 m) K2 o 4 r_7 0 (wi ((p : Int) + (r_7.length : Int))) := by
    intro m
    rw [clerestoryref4_Tokened_l18, if_pos (by simp only [decide_eq_true_eq]; omega), at_some h, Option.bind_some, if_neg hbi, sub_drop (by omega), Option.bind_some, hasPre_eq, Option.bind_some, if_neg (show ¬ (decide ((s.drop p).take ([47, 47] : List UInt8).length = [47, 47]) = true) by rw [show decide ((s.drop p).take ([47, 47] : List UInt8).length = [47, 47]) = false from hc]; simp), between_dig, nameByte_eq, Option.bind_some]
  obtain ⟨b1, b2, b3, b4⟩ := bytes_all s[p]
  cases hd : digB s[p] with
  | true =>
    have hlt : letB s[p] = false := (b2 hd).1
    have hr := rl_le digB s (p + 1) (by omega)
    have hr1 := rl_step h hd
    have hnum := number_eq s hl p (by omega) o
    have hrl : ∀ m, clerestoryref4_Tokened_l18 s K2 (m + 1) o (p : Int) = (match numF ((s.drop p).takeWhile digB) 0 with
        | none => some ([], 2)
        | some n => if decide ((rl digB s p : Int) < (s.length : Int)) then
                  (at? s (rl digB s p : Int)).bind fun c_4 =>
                  clerestoryref4_Tokened_j90 (p : Int) s n (rl digB s p : Int) (clerestoryref4_Tokened_l18 s K2 m) K2 o (clerestoryref4_nameByte (c_4.toNat : Int))
                else
                  clerestoryref4_Tokened_j90 (p : Int) s n (rl digB s p : Int) (clerestoryref4_Tokened_l18 s K2 m) K2 o false) := by
      intro m
      rw [href m, hd, if_pos rfl]
      exact lim_add (s.length - p + 1) fun m' => num_ref s hl (p : Int) _ o (s.length - p) p 0 (by omega) (by omega) (by omega) m'
    cases hn : numF ((s.drop p).takeWhile digB) 0 with
    | none =>
      right
      rw [hn] at hnum
      refine ⟨2, _, _, by decide, by rw [hnext, hlt, if_neg (by simp), hd, if_pos rfl, hnum, Option.bind_some], fun m => ?_⟩
      rw [hrl m, hn]
    | some n =>
      rw [hn] at hnum
      simp only at hnum
      by_cases hlet : jlex_letter (pk s (rl digB s p)) = true
      · right
        have hin : rl digB s p < s.length := by
          by_cases hx : rl digB s p < s.length
          · exact hx
          · rw [pk_out (by omega), letter_zero] at hlet; simp at hlet
        rw [if_pos hlet] at hnum
        refine ⟨4, _, _, by decide, by rw [hnext, hlt, if_neg (by simp), hd, if_pos rfl, hnum, Option.bind_some], fun m => ?_⟩
        rw [hrl m, hn]
        simp only
        rw [if_pos (by simp only [decide_eq_true_eq]; omega), at_some hin, Option.bind_some, nameByte_eq]
        unfold clerestoryref4_Tokened_j90
        rw [pk_in hin] at hlet
        rw [(bytes_all _).1, show letB s[rl digB s p] = true from hlet, Bool.true_or, if_pos rfl]
      · left
        rw [if_neg hlet] at hnum
        refine ⟨2, n, [], rl digB s p, by omega, by omega, by rw [hnext, hlt, if_neg (by simp), hd, if_pos rfl, hnum, Option.bind_some], fun m => ?_⟩
        rw [hrl m, hn]
        simp only
        unfold clerestoryref4_Tokened_j90
        by_cases hin : rl digB s p < s.length
        · rw [if_pos (by simp only [decide_eq_true_eq]; omega), at_some hin, Option.bind_some, nameByte_eq, (bytes_all _).1, rl_at hin]
          rw [pk_in hin] at hlet
          rw [show letB s[rl digB s p] = false from Bool.eq_false_iff.2 hlet, if_neg (by simp)]
        · rw [if_neg (by simp only [decide_eq_true_eq]; omega), if_neg (by simp)]
  | false =>
    rw [hd, Bool.or_false] at b1
    cases hlt : letB s[p] with
    | true =>
      left
      rw [hlt] at b1
      have hr := rl_le nameB s (p + 1) (by omega)
      have hr1 := rl_step h b1
      have hle2 : ((s.drop p).takeWhile nameB).length ≤ 2000 := by
        have := tw_le nameB (s.drop p)
        rw [List.length_drop] at this
        omega
      refine ⟨if (s.drop p).takeWhile nameB ∈ wordsL then 5 else 1, 0, (s.drop p).takeWhile nameB, rl nameB s p, by omega, by omega, by rw [hnext, hlt, if_pos rfl, name_eq s hl p (by omega) o, Option.bind_some], fun m => ?_⟩
      rw [href m, hd, if_neg (by simp), b1, if_pos rfl]
      refine lim_add (s.length - p + 1) fun m' => ?_
      refine (name_ref s hl (p : Int) _ o (s.length - p) p (by omega) m').trans ?_
      rw [sub_nat (by omega) (by omega), Option.bind_some, rl_slice, isWord_eq _ hle2 (fun c hc h32 => ?_), Option.bind_some]
      · by_cases hw : (s.drop p).takeWhile nameB ∈ wordsL
        · rw [if_pos (by simpa using hw), if_pos hw]
        · rw [if_neg (by simpa using hw), if_neg hw]
      · have := ((bytes_all c).2.2.1 (tw_all nameB _ c hc)).1
        rw [h32] at this
        exact this rfl
    | false =>
      rw [hlt] at b1
      by_cases h34 : (s[p].toNat : Int) = 34
      · rcases text_eq s hl p h o with ⟨t, e, h1, h2, h3, h4⟩ | ⟨⟨r, h3⟩, h4⟩
        · left
          refine ⟨3, 0, t, e, h1, h2, by rw [hnext, hlt, if_neg (by simp), hd, if_neg (by simp), if_pos (by simpa using h34), h3, Option.bind_some], fun m => ?_⟩
          rw [href m, hd, if_neg (by simp), b1, if_neg (by simp), if_pos (by simpa using h34), h4, Option.bind_some, if_neg (by simp)]
        · right
          refine ⟨4, r, _, by decide, by rw [hnext, hlt, if_neg (by simp), hd, if_neg (by simp), if_pos (by simpa using h34), h3, Option.bind_some], fun m => ?_⟩
          rw [href m, hd, if_neg (by simp), b1, if_neg (by simp), if_pos (by simpa using h34), h4, Option.bind_some, if_pos (by simp)]
      · have hsg := sign_eq s hl p h o
        have hne : s.drop p ≠ [] := by rw [List.drop_eq_getElem_cons h]; exact List.cons_ne_nil _ _
        have hnx : clerestory_jlex_reader_next1 ⟨s, (p : Int), o⟩ = (clerestory_jlex_reader_sign1 ⟨s, (p : Int), o⟩).bind fun r_5 => some (r_5.1, r_5.2.1, r_5.2.2) := by
          rw [hnext, hlt, if_neg (by simp), hd, if_neg (by simp), if_neg (by simpa using h34)]
        have hrf : ∀ m, clerestoryref4_Tokened_l18 s K2 (m + 1) o (p : Int) = if decide (sigF (s.drop p) = []) then some (([] : List TJTok), 4) else clerestoryref4_Tokened_j83 (p : Int) s (clerestoryref4_Tokened_l18 s K2 m) K2 o 4 (sigF (s.drop p)) 0 (wi ((p : Int) + ((sigF (s.drop p)).length : Int))) := by
          intro m
          rw [href m, hd, if_neg (by simp), b1, if_neg (by simp), if_neg (by simpa using h34), signAt_eq _ hne, Option.bind_some]
        by_cases hs : sigF (s.drop p) = []
        · right
          rw [if_pos hs] at hsg
          refine ⟨4, _, _, by decide, by rw [hnx, hsg, Option.bind_some], fun m => ?_⟩
          rw [hrf m, if_pos (by simpa using hs)]
        · left
          rw [if_neg hs] at hsg
          have hl1 : 1 ≤ (sigF (s.drop p)).length := Nat.pos_of_ne_zero fun h => hs (List.length_eq_zero_iff.1 h)
          have hl2 : p + (sigF (s.drop p)).length ≤ s.length := by
            have hdl : (s.drop p).length = s.length - p := List.length_drop
            unfold sigF
            split
            · rw [List.length_take]; omega
            · rw [List.drop_eq_getElem_cons h]
              simp only
              split
              · rw [List.length_singleton]; omega
              · rw [List.length_nil]; omega
          have hlen := And.intro hl1 hl2
          refine ⟨4, 0, _, p + (sigF (s.drop p)).length, by omega, hlen.2, by rw [hnx, hsg, Option.bind_some], fun m => ?_⟩
          rw [hrf m, if_neg (by simpa using hs), wi_id (by omega) (by omega)]
          rfl
/-! ### all tokens -/
theorem toks_joint (s : List UInt8) (hl : s.length ≤ 2000) (K : List UInt8 → Int → List TJTok → Option (List TJTok × Int)) (hK : ∀ a b c, K a b c = some (c, 0)) (K2 : List TJTok → Option (List TJTok × Int)) (hK2 : ∀ c, K2 c = some (c, 0)) : ∀ (d p : Nat) (o : List TJTok), s.length ≤ p + d → p ≤ s.length → o.length ≤ 1000 →
    ∃ (r : List TJTok × Int) (N : Nat), r.1.length ≤ 1000 ∧ (∀ m, ((clerestory_jlex_reader_skip1 ⟨s, (p : Int), o⟩).bind fun x => jlex_Tokens_l0 s K (m + N) x.f_s x.f_at x.f_out) = some r) ∧ ∀ m, clerestoryref4_Tokened_l18 s K2 (m + N) o (p : Int) = some r
  | d, p, o, hd, hp, ho => by
    obtain ⟨e, h1, h2, h3, h4, h5⟩ := skip_eq s hl K2 p hp
    obtain ⟨N0, hN0⟩ := h5 o
    by_cases h : e < s.length
    · obtain ⟨hb, hc⟩ := h3 h
      rcases tok_joint s hl K2 e h hb hc o with ⟨k, n, w, e', t1, t2, t3, t4⟩ | ⟨er, r, t, t1, t3, t4⟩
      · have hstep : ∀ k', jlex_Tokens_l0 s K (k' + 1) s (e : Int) o = if o.length = 1000 then some ([], 2) else (clerestory_jlex_reader_skip1 ⟨s, (e' : Int), o ++ [⟨k, (e : Int), (e' : Int), w, n⟩]⟩).bind fun x => jlex_Tokens_l0 s K k' x.f_s x.f_at x.f_out := by
          intro k'
          rw [jlex_Tokens_l0, if_pos (by simp only [decide_eq_true_eq]; omega), t3, Option.bind_some]
          unfold jlex_Tokens_j3
          simp only
          by_cases h10 : o.length = 1000
          · rw [if_pos (by simp; omega), if_pos h10, if_pos (by simp)]
          · rw [if_neg (by simp; omega), if_neg h10, if_neg (by simp), appq (by simp; omega), Option.bind_some]
        have href : ∀ m, clerestoryref4_Tokened_l18 s K2 (m + 1) o (e : Int) = if o.length = 1000 then some ([], 2) else clerestoryref4_Tokened_l18 s K2 m (o ++ [⟨k, (e : Int), (e' : Int), w, n⟩]) (e' : Int) := by
          intro m
          rw [t4 m]
          unfold clerestoryref4_Tokened_j83
          by_cases h10 : o.length = 1000
          · rw [if_pos (by simp; omega), if_pos h10]
          · rw [if_neg (by simp; omega), if_neg h10, appq (by simp; omega), Option.bind_some]
        by_cases h10 : o.length = 1000
        · refine ⟨([], 2), N0 + 1, by simp, fun m => ?_, fun m => ?_⟩
          · rw [h4 o, Option.bind_some, show m + (N0 + 1) = (m + N0) + 1 by omega]
            rw [hstep, if_pos h10]
          · rw [show m + (N0 + 1) = (m + 1) + N0 by omega, hN0, href, if_pos h10]
        · match d, hd with
          | 0, hd => omega
          | d + 1, hd =>
            obtain ⟨r, N, r1, r2, r3⟩ := toks_joint s hl K hK K2 hK2 d e' (o ++ [⟨k, (e : Int), (e' : Int), w, n⟩]) (by omega) t2 (by simp; omega)
            refine ⟨r, N + N0 + 1, r1, fun m => ?_, fun m => ?_⟩
            · rw [h4 o, Option.bind_some, show m + (N + N0 + 1) = ((m + N0) + N) + 1 by omega]
              rw [hstep, if_neg h10]
              exact r2 (m + N0)
            · rw [show m + (N + N0 + 1) = ((m + N) + 1) + N0 by omega, hN0, href, if_neg h10]
              exact r3 m
      · refine ⟨([], er), N0 + 1, by simp, fun m => ?_, fun m => ?_⟩
        · rw [h4 o, Option.bind_some, show m + (N0 + 1) = (m + N0) + 1 by omega]
          simp only
          rw [jlex_Tokens_l0, if_pos (by simp only [decide_eq_true_eq]; omega), t3, Option.bind_some]
          unfold jlex_Tokens_j3
          simp only
          rw [if_neg (by simp [t1]), if_pos (by simp [t1])]
        · rw [show m + (N0 + 1) = (m + 1) + N0 by omega, hN0, t4]
    · refine ⟨(o, 0), N0 + 1, ho, fun m => ?_, fun m => ?_⟩
      · rw [h4 o, Option.bind_some, show m + (N0 + 1) = (m + N0) + 1 by omega]
        simp only
        rw [jlex_Tokens_l0, if_neg (by simp only [decide_eq_true_eq]; omega), hK]
      · rw [show m + (N0 + 1) = (m + 1) + N0 by omega, hN0, clerestoryref4_Tokened_l18, if_neg (by simp only [decide_eq_true_eq]; omega), hK2]
termination_by d => d
theorem tokens_eq (s : List UInt8) : ∃ r : List TJTok × Int, r.1.length ≤ 1000 ∧ jlex_Tokens s = some r ∧ clerestoryref4_Tokened s = some r := by
  unfold jlex_Tokens clerestoryref4_Tokened
  by_cases hl : 2000 < s.length
  · refine ⟨([], 2), by simp, ?_, ?_⟩
    · rw [if_pos (by simp only [decide_eq_true_eq]; omega)]
    · rw [if_pos (by simp only [decide_eq_true_eq]; omega)]
  · rw [if_neg (by simp only [decide_eq_true_eq]; omega), if_neg (by simp only [decide_eq_true_eq]; omega)]
    obtain ⟨r, N, r1, r2, r3⟩ := toks_joint s (by omega) (fun (r01 : (List UInt8)) (r11 : Int) (r21 : (List TJTok)) => some (r21, 0)) (fun _ _ _ => rfl) (fun (out1 : (List TJTok)) => some (out1, 0)) (fun _ => rfl) s.length 0 [] (by omega) (by omega) (by simp)
    refine ⟨r, r1, ?_, lim_add N r3⟩
    obtain ⟨e, _, _, _, h4, _⟩ := skip_eq s (by omega) (fun (out1 : (List TJTok)) => some (out1, 0)) 0 (by omega)
    have h40 := h4 []
    have r20 : ∀ m, ((clerestory_jlex_reader_skip1 ⟨s, ((0 : Nat) : Int), []⟩).bind fun x => jlex_Tokens_l0 s (fun (r01 : (List UInt8)) (r11 : Int) (r21 : (List TJTok)) => some (r21, 0)) (m + N) x.f_s x.f_at x.f_out) = some r := r2
    rw [h40] at r20
    show (clerestory_jlex_reader_skip1 ⟨s, ((0 : Nat) : Int), []⟩).bind _ = _
    rw [h40, Option.bind_some]
    exact lim_add N r20
theorem same_refl (l : List TJTok) (hl : l.length ≤ 1000) : clerestoryref4_SameToks l l = some true := by
  unfold clerestoryref4_SameToks
  rw [if_neg (by simp)]
  refine lim_add (l.length + 1) fun m => ?_
  have : ∀ (d i : Nat), i + d = l.length → ∀ m, clerestoryref4_SameToks_l0 l l (fun (_ : Unit) => some true) (m + d + 1) (i : Int) = some true := by
    intro d
    induction d with
    | zero =>
      intro i hi m
      rw [clerestoryref4_SameToks_l0, if_neg (by simp only [decide_eq_true_eq]; omega)]
    | succ d ih =>
      intro i hi m
      have h : i < l.length := by omega
      rw [clerestoryref4_SameToks_l0, if_pos (by simp only [decide_eq_true_eq]; omega), at_some h, Option.bind_some, Option.bind_some, letIn_eq, if_neg (by simp), wi_id (by omega) (by omega), show (i : Int) + 1 = ((i + 1 : Nat) : Int) by omega]
      exact ih (i + 1) (by omega) m
  exact this l.length 0 (by omega) m
end Go.Proofs.YtagfmlkihindaaaDoorBv
