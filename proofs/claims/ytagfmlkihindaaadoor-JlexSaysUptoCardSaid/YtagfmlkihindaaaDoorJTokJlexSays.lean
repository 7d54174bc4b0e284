/- A script's numbers, texts and signs: the program's and the document's. No program is in sight. -/
import Derived.Test.YtagfmlkihindaaaDoorJWordJlexSays
namespace Go.Proofs.YtagfmlkihindaaaDoorBv
open Go
set_option linter.unusedSimpArgs false
set_option linter.unusedVariables false
/-! ### numbers -/
def numF : List UInt8 → Int → Option Int
  | [], n => some n
  | c :: r, n => if 9007199254740992 < 10 * n + ((c.toNat : Int) - 48) then none else numF r (10 * n + ((c.toNat : Int) - 48))
theorem dig_val (c : UInt8) (h : digB c = true) : wr .i64 (wr .u8 ((c.toNat : Int) - 48)) = (c.toNat : Int) - 48 ∧ 0 ≤ (c.toNat : Int) - 48 ∧ (c.toNat : Int) - 48 ≤ 9 := by
  have := (bytes_all c).2.1 h
  rw [wr_u8, wr_i64, wi_id (by omega) (by omega)]
  omega
def tk (k f t : Int) (w : List UInt8) (n : Int) : TJTok := ⟨k, f, t, w, n⟩
theorem num_prog (q : Treader) (l : List UInt8) (hl : l.length ≤ 2000) (hd : ∀ c, c ∈ l → digB c = true) (K : List TJTok → Int → Option (TJTok × Int × Treader)) (out : List TJTok) : ∀ (d v : Nat) (n : Int), v + d = l.length → 0 ≤ n → n ≤ 9007199254740992 → ∀ m, clerestory_jlex_reader_number1_l0 (l, q) K (m + d + 1) out n (v : Int) = (match numF (l.drop v) n with
    | none => some (⟨0, 0, 0, [], 0⟩, 2, ⟨q.f_s, q.f_at, out⟩)
    | some n' => K out n')
  | 0, v, n, hv, h0, h1, m => by
    rw [clerestory_jlex_reader_number1_l0, if_neg (by simp only [decide_eq_true_eq, ints_length]; omega), List.drop_eq_nil_of_le (by omega), numF]
  | d + 1, v, n, hv, h0, h1, m => by
    have h : v < l.length := by omega
    obtain ⟨e1, e2, e3⟩ := dig_val l[v] (hd _ (List.getElem_mem h))
    rw [clerestory_jlex_reader_number1_l0, if_pos (by simp only [decide_eq_true_eq, ints_length]; omega), at_nat, ints_get, List.getElem?_eq_getElem h, Option.map_some, Option.bind_some, letIn_eq, e1]
    rw [wi_id (n := 10 * n) (by omega) (by omega), wi_id (n := 10 * n + _) (by omega) (by omega)]
    rw [List.drop_eq_getElem_cons h, numF]
    by_cases hb : 9007199254740992 < 10 * n + ((l[v].toNat : Int) - 48)
    · rw [if_pos (by simpa using hb), if_pos hb]
    · rw [if_neg (by simpa using hb), if_neg hb, wi_id (by omega) (by omega), show (v : Int) + 1 = ((v + 1 : Nat) : Int) by omega]
      exact num_prog q l hl hd K out d (v + 1) _ (by omega) (by omega) (by omega) m
theorem num_ref (s : List UInt8) (hl : s.length ≤ 2000) (a : Int) (K : List TJTok → Int → Int → Option (List TJTok × Int)) (out : List TJTok) : ∀ (d p : Nat) (n : Int), p + d = s.length → 0 ≤ n → n ≤ 9007199254740992 → ∀ m, clerestoryref4_Tokened_l26 s a K (m + d + 1) out n (p : Int) = (match numF ((s.drop p).takeWhile digB) n with
    | none => some ([], 2)
    | some n' => K out n' (rl digB s p : Int))
  | 0, p, n, hv, h0, h1, m => by
    rw [clerestoryref4_Tokened_l26, if_neg (by simp only [decide_eq_true_eq]; omega), List.drop_eq_nil_of_le (by omega), rl_end (by omega), List.takeWhile_nil, numF]
    rfl
  | d + 1, p, n, hv, h0, h1, m => by
    have h : p < s.length := by omega
    rw [clerestoryref4_Tokened_l26, if_pos (by simp only [decide_eq_true_eq]; omega), at_some h, Option.bind_some, between_dig]
    unfold clerestoryref4_Tokened_j89
    cases hp : digB s[p] with
    | false =>
      rw [if_neg (by simp), rl_stop h hp, List.drop_eq_getElem_cons h, List.takeWhile_cons, if_neg (by simp [hp]), numF]
    | true =>
      obtain ⟨e1, e2, e3⟩ := dig_val s[p] hp
      rw [if_pos rfl, at_some h, Option.bind_some, letIn_eq, e1, wi_id (n := 10 * n) (by omega) (by omega), wi_id (n := 10 * n + _) (by omega) (by omega)]
      rw [List.drop_eq_getElem_cons h, List.takeWhile_cons, if_pos hp, numF, rl_step h hp]
      by_cases hb : 9007199254740992 < 10 * n + ((s[p].toNat : Int) - 48)
      · rw [if_pos (by simpa using hb), if_pos hb]
      · rw [if_neg (by simpa using hb), if_neg hb, wi_id (by omega) (by omega), show (p : Int) + 1 = ((p + 1 : Nat) : Int) by omega]
        exact num_ref s hl a K out d (p + 1) _ (by omega) (by omega) (by omega) m
theorem tw_all {α : Type} (p : α → Bool) : ∀ (l : List α) (c : α), c ∈ l.takeWhile p → p c = true
  | [], c, h => by simp at h
  | x :: r, c, h => by
    rw [List.takeWhile_cons] at h
    split at h
    · rename_i hx
      rcases List.mem_cons.1 h with rfl | h
      · exact hx
      · exact tw_all p r c h
    · simp at h
theorem tw_le {α : Type} (p : α → Bool) (l : List α) : (l.takeWhile p).length ≤ l.length := by
  have := dropWhile_take p l
  omega
/-- a number, at its first digit -/
theorem number_eq (s : List UInt8) (hl : s.length ≤ 2000) (p : Nat) (hp : p ≤ s.length) (out : List TJTok) : clerestory_jlex_reader_number1 ⟨s, (p : Int), out⟩ = (match numF ((s.drop p).takeWhile digB) 0 with
    | none => some (⟨0, 0, 0, [], 0⟩, 2, ⟨s, (rl digB s p : Int), out⟩)
    | some n => if jlex_letter (pk s (rl digB s p)) then some (⟨0, 0, 0, [], 0⟩, 4, ⟨s, (rl digB s p : Int), out⟩) else some (⟨2, 0, 0, [], n⟩, 0, ⟨s, (rl digB s p : Int), out⟩)) := by
  unfold clerestory_jlex_reader_number1
  have hle := rl_le digB s p hp
  rw [runD_eq s hl p hp out, Option.bind_some]
  have h2 : ((s.drop p).takeWhile digB).length ≤ 2000 := by
    have := tw_le digB (s.drop p)
    rw [List.length_drop] at this
    omega
  refine lim_add (((s.drop p).takeWhile digB).length + 1) fun m => ?_
  have := num_prog ⟨s, (rl digB s p : Int), out⟩ ((s.drop p).takeWhile digB) h2 (tw_all digB _) (fun (r21 : (List TJTok)) (n_1 : Int) => 
      (clerestory_jlex_reader_peek (⟨s, (rl digB s p : Int), r21⟩ : Treader) 0).bind fun r_2 =>
      if (jlex_letter r_2) then
        some ((⟨0, 0, 0, [], 0⟩ : TJTok), 4, (⟨s, (rl digB s p : Int), r21⟩ : Treader))
      else
        some ((⟨2, 0, 0, [], n_1⟩ : TJTok), 0, (⟨s, (rl digB s p : Int), r21⟩ : Treader))) out _ 0 0 (Nat.zero_add _) (by omega) (by omega) m
  refine this.trans ?_
  rw [List.drop_zero]
  cases numF ((s.drop p).takeWhile digB) 0 with
  | none => rfl
  | some n =>
    simp only
    have hk := peek_eq s hl (rl digB s p) 0 hle.2 (by omega) out
    rw [show ((0 : Nat) : Int) = 0 from rfl, Nat.add_zero] at hk
    rw [hk, Option.bind_some]
/-! ### texts -/
theorem hex_eq (c : UInt8) : jlex_hex (c.toNat : Int) = some (hx c) := by
  unfold jlex_hex
  show (indexByte? _ _).bind _ = _
  unfold indexByte?
  rw [Option.bind_some, show (c.toNat : Int).toNat.toUInt8 = c by simp]
  rfl
theorem hex_zero : jlex_hex 0 = some (-1) := by
  unfold jlex_hex
  show (indexByte? _ _).bind _ = _
  unfold indexByte?
  rw [Option.bind_some]
  decide +kernel
theorem index_one (c : UInt8) : strings_Index [48, 49, 50, 51, 52, 53, 54, 55, 56, 57, 97, 98, 99, 100, 101, 102] [c] = some (hx c) := by
  show index? _ _ = _
  unfold index?
  rw [if_pos (by decide)]
  have := u8_all (p := fun c => decide (Lib.index [48, 49, 50, 51, 52, 53, 54, 55, 56, 57, 97, 98, 99, 100, 101, 102] [c] = hx c)) (by decide +kernel) c
  rw [of_decide_eq_true this]
theorem contains_one (t : List UInt8) (c : UInt8) : strings_Contains t [c] = some (decide (0 ≤ Lib.indexByte t c)) := rfl
/-- what stands after a stroke, at p -/
def escF (s : List UInt8) (p : Nat) : Option (UInt8 × Nat) :=
  if pk s p = 34 ∨ pk s p = 92 then some (UInt8.ofNat (pk s p).toNat, 1)
  else if pk s p = 110 then some (10, 1)
  else if pk s p = 116 then some (9, 1)
  else if pk s p = 120 then
    (match s[p + 1]?, s[p + 2]? with
     | some a, some b => if 0 ≤ hx a ∧ 0 ≤ hx b then some (UInt8.ofNat (16 * (hx a).toNat + (hx b).toNat), 3) else none
     | _, _ => none)
  else none
theorem hex_pk (s : List UInt8) (i : Nat) : jlex_hex (pk s i) = some (match s[i]? with
    | some c => hx c
    | none => -1) := by
  unfold pk
  cases s[i]? with
  | none => exact hex_zero
  | some c => exact hex_eq c
theorem nib_all (a b : Nat) (ha : a < 16) (hb : b < 16) : wr .u8 (bitsV .or .i64 (shl .i64 (a : Int) 4) (b : Int)) = ((16 * a + b : Nat) : Int) := by
  have : ∀ a : Fin 16, ∀ b : Fin 16, wr .u8 (bitsV .or .i64 (shl .i64 (a.val : Int) 4) (b.val : Int)) = ((16 * a.val + b.val : Nat) : Int) := by decide +kernel
  exact this ⟨a, ha⟩ ⟨b, hb⟩
theorem esc_eq (s : List UInt8) (hl : s.length ≤ 2000) (p : Nat) (hp : p ≤ s.length) (out : List TJTok) : clerestory_jlex_reader_escape ⟨s, (p : Int), out⟩ = some (match escF s p with
    | some (c, n) => ((c.toNat : Int), (n : Int))
    | none => (0, 0)) := by
  have k0 := peek_eq s hl p 0 hp (by omega) out
  have k1 := peek_eq s hl p 1 hp (by omega) out
  have k2 := peek_eq s hl p 2 hp (by omega) out
  rw [show ((0 : Nat) : Int) = 0 from rfl, Nat.add_zero] at k0
  rw [show ((1 : Nat) : Int) = 1 from rfl] at k1
  rw [show ((2 : Nat) : Int) = 2 from rfl] at k2
  unfold clerestory_jlex_reader_escape
  rw [k0, Option.bind_some]
  have hj : ∀ b : Bool, b = decide (pk s p = 34 ∨ pk s p = 92) → clerestory_jlex_reader_escape_j4 (pk s p) ⟨s, (p : Int), out⟩ b = some (match escF s p with
    | some (c, n) => ((c.toNat : Int), (n : Int))
    | none => (0, 0)) := by
    intro b hb
    unfold clerestory_jlex_reader_escape_j4 escF clerestory_jlex_reader_escape_j3
    by_cases h1 : pk s p = 34 ∨ pk s p = 92
    · rw [if_pos (by rw [hb]; simpa using h1), if_pos h1]
      rcases h1 with h | h <;> rw [h] <;> rfl
    · rw [if_neg (by rw [hb]; simpa using h1), if_neg h1]
      by_cases h2 : pk s p = 110
      · rw [if_pos (by simpa using h2), if_pos h2]; rfl
      · rw [if_neg (by simpa using h2), if_neg h2]
        by_cases h3 : pk s p = 116
        · rw [if_pos (by simpa using h3), if_pos h3]; rfl
        · rw [if_neg (by simpa using h3), if_neg h3]
          by_cases h4 : pk s p = 120
          · rw [if_pos (by simpa using h4), if_pos h4, k1, Option.bind_some, hex_pk, Option.bind_some, k2, Option.bind_some, hex_pk, Option.bind_some]
            cases ha : s[p + 1]? with
            | none => simp
            | some a =>
              cases hb : s[p + 2]? with
              | none => simp
              | some b =>
                simp only
                by_cases h5 : 0 ≤ hx a ∧ 0 ≤ hx b
                · rw [if_pos (by simpa using h5), if_pos h5]
                  obtain ⟨a1, a2, _⟩ := hx_all a
                  obtain ⟨b1, b2, _⟩ := hx_all b
                  have := nib_all (hx a).toNat (hx b).toNat (by omega) (by omega)
                  rw [Int.toNat_of_nonneg h5.1, Int.toNat_of_nonneg h5.2] at this
                  rw [this]
                  simp only [UInt8.toNat_ofNat']
                  congr 2
                  have : (hx a).toNat < 16 := by omega
                  have : (hx b).toNat < 16 := by omega
                  omega
                · rw [if_neg (by simpa using h5), if_neg h5]
          · rw [if_neg (by simpa using h4), if_neg h4]
  by_cases h : pk s p = 34
  · rw [if_pos (by simpa using h)]; exact hj _ (by simp [h])
  · rw [if_neg (by simpa using h)]; exact hj _ (by simp [h])
theorem byts_snoc (l : List Int) (c : UInt8) : byts (l ++ [(c.toNat : Int)]) = byts l ++ [c] := by
  simp [byts]
/-- the document's two digits after \x -/
theorem hex_ref (s : List UInt8) (hl : s.length ≤ 2000) (p : Nat) (hp : p + 1 < s.length) (out : List UInt8) (K : Int → Option (List UInt8 × Int)) : ∀ m, clerestoryref4_textAt_l9 s (p : Int) out K (m + 3) 0 1 = (match s[p + 2]?, s[p + 3]? with
     | some a, some b => if 0 ≤ hx a ∧ 0 ≤ hx b then K (16 * hx a + hx b) else some ([], -1)
     | _, _ => some ([], -1)) := by
  intro m
  have hstep : ∀ (i : Nat) (n : Int) (m : Nat), 1 ≤ i → i < 3 → 0 ≤ n → n < 16 → clerestoryref4_textAt_l9 s (p : Int) out K (m + 1) n (i : Int) = (match s[p + 1 + i]? with
      | some a => if 0 ≤ hx a then clerestoryref4_textAt_l9 s (p : Int) out K m (16 * n + hx a) ((i + 1 : Nat) : Int) else some ([], -1)
      | none => some ([], -1)) := by
    intro i n m hi1 hi3 hn0 hn
    rw [clerestoryref4_textAt_l9, if_pos (by simp only [decide_eq_true_eq]; omega)]
    have e1 : wi ((wi ((p : Int) + 1)) + (i : Int)) = ((p + 1 + i : Nat) : Int) := by
      rw [wi_id (n := (p : Int) + 1) (by omega) (by omega), wi_id (by omega) (by omega)]; omega
    rw [e1]
    by_cases h : p + 1 + i < s.length
    · rw [if_neg (by simp only [decide_eq_true_eq]; omega), at_some h, Option.bind_some, List.getElem?_eq_getElem h]
      have e2 : wi (((p + 1 + i : Nat) : Int) + 1) = ((p + 1 + i + 1 : Nat) : Int) := by rw [wi_id (by omega) (by omega)]; omega
      have e3 : sub? s ((p + 1 + i : Nat) : Int) ((p + 1 + i + 1 : Nat) : Int) = some [s[p + 1 + i]] := by
        rw [sub_nat (by omega) (by omega)]
        congr 1
        rw [List.drop_take, show p + 1 + i + 1 - (p + 1 + i) = 1 by omega, List.drop_eq_getElem_cons h]
        rfl
      obtain ⟨x1, x2, x3, _⟩ := hx_all s[p + 1 + i]
      have hgo : ∀ b : Bool, b = decide (hx s[p + 1 + i] < 0) → clerestoryref4_textAt_j39 s (p : Int) (i : Int) n out (clerestoryref4_textAt_l9 s (p : Int) out K m) K b = (if 0 ≤ hx s[p + 1 + i] then clerestoryref4_textAt_l9 s (p : Int) out K m (16 * n + hx s[p + 1 + i]) ((i + 1 : Nat) : Int) else some ([], -1)) := by
        intro b hb
        unfold clerestoryref4_textAt_j39
        by_cases hh : hx s[p + 1 + i] < 0
        · rw [if_pos (by rw [hb]; simpa using hh), if_neg (by omega)]
        · rw [if_neg (by rw [hb]; simpa using hh), if_pos (by omega), e1, e2, e3, Option.bind_some, index_one, Option.bind_some, wi_id (n := 16 * n) (by omega) (by omega), wi_id (by omega) (by omega), wi_id (n := (i : Int) + 1) (by omega) (by omega)]
          rfl
      simp only
      by_cases h7 : 127 < s[p + 1 + i].toNat
      · rw [if_pos (by simp only [decide_eq_true_eq]; omega)]
        exact hgo _ (by simp [x3 h7])
      · rw [if_neg (by simp only [decide_eq_true_eq]; omega), e2, e3, Option.bind_some, contains_one, Option.bind_some]
        refine hgo _ ?_
        show (!decide (0 ≤ hx s[p + 1 + i])) = _
        rw [Bool.eq_iff_iff]; simp
    · rw [if_pos (by simp only [decide_eq_true_eq]; omega), List.getElem?_eq_none (by omega)]
      unfold clerestoryref4_textAt_j39
      rfl
  have s1 := hstep 1 0 (m + 2) (by omega) (by omega) (by omega) (by omega)
  rw [show ((1 : Nat) : Int) = 1 from rfl, show p + 1 + 1 = p + 2 by omega] at s1
  refine s1.trans ?_
  cases ha : s[p + 2]? with
  | none => rfl
  | some a =>
    simp only
    obtain ⟨a1, a2, _⟩ := hx_all a
    by_cases h0 : 0 ≤ hx a
    · rw [if_pos h0]
      have s2 := hstep 2 (16 * 0 + hx a) (m + 1) (by omega) (by omega) (by omega) (by omega)
      rw [show p + 1 + 2 = p + 3 by omega] at s2
      refine s2.trans ?_
      cases hb : s[p + 3]? with
      | none => rfl
      | some b =>
        simp only
        obtain ⟨b1, b2, _⟩ := hx_all b
        by_cases h1 : 0 ≤ hx b
        · rw [if_pos h1, if_pos ⟨h0, h1⟩, clerestoryref4_textAt_l9, if_neg (by simp)]
          congr 1
          omega
        · rw [if_neg h1, if_neg (by rintro ⟨_, h⟩; exact h1 h)]
    · rw [if_neg h0]
      cases hb : s[p + 3]? with
      | none => rfl
      | some b => simp only; rw [if_neg (by rintro ⟨h, _⟩; exact h0 h)]
/-- one turn of the document's reader of texts -/
theorem lim_const {α : Type} {g : Nat → Option α} {c : Option α} (N : Nat) (h : ∀ m, g (m + N) = c) : lim g = c := lim_add N h
theorem text_esc (s : List UInt8) (hl : s.length ≤ 2000) (p : Nat) (h : p < s.length) (h92 : s[p].toNat = 92) (out : List UInt8) (ho : out.length ≤ 2000) (K : Unit → Option (List UInt8 × Int)) (m : Nat) : clerestoryref4_textAt_l6 s K (m + 1) out (p : Int) = (match escF s (p + 1) with
    | some (c, n) => clerestoryref4_textAt_l6 s K m (out ++ [c]) ((p + 1 + n : Nat) : Int)
    | none => some ([], -1)) := by
  have e2 : wi ((p : Int) + 1) = ((p + 1 : Nat) : Int) := by rw [wi_id (by omega) (by omega)]; omega
  have e3 : sub? s (p : Int) ((p + 1 : Nat) : Int) = some [s[p]] := by
    rw [sub_nat (by omega) (by omega)]
    congr 1
    rw [List.drop_take, show p + 1 - p = 1 by omega, List.drop_eq_getElem_cons h]
    rfl
  have hc : s[p] = 92 := by
    have := (u8_eq (c := s[p]) (n := 92) (by omega)).1 (by omega)
    exact this
  rw [clerestoryref4_textAt_l6, if_pos (by simp only [decide_eq_true_eq]; omega), e2, e3, Option.bind_some, if_neg (by rw [hc]; decide), at_some h, Option.bind_some, if_neg (by simp only [decide_eq_true_eq]; omega), if_neg (by rw [hc]; decide)]
  by_cases hend : p + 1 = s.length
  · rw [if_pos (by simp only [decide_eq_true_eq]; omega)]
    unfold escF
    rw [pk_out (by omega)]
    rfl
  · have h1 : p + 1 < s.length := by omega
    rw [if_neg (by simp only [decide_eq_true_eq]; omega), at_some h1, Option.bind_some]
    have e4 : sub? s ((p + 1 : Nat) : Int) (wi (((p + 1 : Nat) : Int) + 1)) = some [s[p + 1]] := by
      rw [wi_id (by omega) (by omega), show ((p + 1 : Nat) : Int) + 1 = ((p + 1 + 1 : Nat) : Int) by omega, sub_nat (by omega) (by omega)]
      congr 1
      rw [List.drop_take, show p + 1 + 1 - (p + 1) = 1 by omega, List.drop_eq_getElem_cons h1]
      rfl
    have hj : ∀ b : Bool, b = decide ((s[p + 1].toNat : Int) = 34 ∨ (s[p + 1].toNat : Int) = 92) → clerestoryref4_textAt_j36 s (p : Int) out s[p + 1] (clerestoryref4_textAt_l6 s K m) K b = (match escF s (p + 1) with
      | some (c, n) => clerestoryref4_textAt_l6 s K m (out ++ [c]) ((p + 1 + n : Nat) : Int)
      | none => some ([], -1)) := by
      intro b hb
      unfold clerestoryref4_textAt_j36 clerestoryref4_textAt_j35 escF
      rw [pk_in h1]
      have e5 : wi ((wi ((p : Int) + 1)) + 1) = ((p + 1 + 1 : Nat) : Int) := by rw [e2, wi_id (by omega) (by omega)]; omega
      by_cases t1 : (s[p + 1].toNat : Int) = 34 ∨ (s[p + 1].toNat : Int) = 92
      · rw [if_pos (by rw [hb]; simpa using t1), if_pos t1, e2, e4, Option.bind_some, catq (by simp; omega), Option.bind_some]
        simp only
        rw [Int.toNat_natCast, UInt8.ofNat_toNat, wi_id (by omega) (by omega)]
        rfl
      · rw [if_neg (by rw [hb]; simpa using t1), if_neg t1]
        by_cases t2 : (s[p + 1].toNat : Int) = 110
        · rw [if_pos (by simpa using t2), if_pos t2, catq (by simp; omega), Option.bind_some, e5]
        · rw [if_neg (by simpa using t2), if_neg t2]
          by_cases t3 : (s[p + 1].toNat : Int) = 116
          · rw [if_pos (by simpa using t3), if_pos t3, catq (by simp; omega), Option.bind_some, e5]
          · rw [if_neg (by simpa using t3), if_neg t3]
            by_cases t4 : (s[p + 1].toNat : Int) = 120
            · rw [if_pos (by simpa using t4), if_pos t4]
              refine (lim_add 3 fun m' => hex_ref s hl p h1 out _ m').trans ?_
              rw [show p + 1 + 1 = p + 2 by omega, show p + 1 + 2 = p + 3 by omega]
              cases ha : s[p + 2]? with
              | none => rfl
              | some a =>
                cases hb : s[p + 3]? with
                | none => rfl
                | some b =>
                  simp only
                  by_cases h5 : 0 ≤ hx a ∧ 0 ≤ hx b
                  · rw [if_pos h5, if_pos h5]
                    obtain ⟨a1, a2, _⟩ := hx_all a
                    obtain ⟨b1, b2, _⟩ := hx_all b
                    have e6 : byts [wr .u8 (16 * hx a + hx b)] = [UInt8.ofNat (16 * (hx a).toNat + (hx b).toNat)] := by
                      rw [wr_u8]
                      show [UInt8.ofNat _] = _
                      congr 2
                      omega
                    rw [e6, catq (by simp; omega), Option.bind_some]
                    simp only
                    congr 1
                    rw [wi_id (n := (p : Int) + 1) (by omega) (by omega), wi_id (n := (p : Int) + 1 + 2) (by omega) (by omega), wi_id (by omega) (by omega)]
                    omega
                  · rw [if_neg h5, if_neg h5]
            · rw [if_neg (by simpa using t4), if_neg t4]
    by_cases t : (s[p + 1].toNat : Int) = 34
    · rw [if_pos (by simpa using t)]; exact hj _ (by simp [t])
    · rw [if_neg (by simpa using t)]; exact hj _ (by simp [t])
theorem escF_le {s : List UInt8} {p : Nat} {c : UInt8} {n : Nat} (h : escF s p = some (c, n)) : 1 ≤ n ∧ p + n ≤ s.length := by
  unfold escF at h
  have hin : ∀ k : Int, k ≠ 0 → pk s p = k → p < s.length := by
    intro k hk hp
    by_cases hlt : p < s.length
    · exact hlt
    · rw [pk_out (by omega)] at hp; omega
  split at h
  · rename_i h1
    simp only [Option.some.injEq, Prod.mk.injEq] at h
    have : p < s.length := by rcases h1 with h1 | h1 <;> exact hin _ (by omega) h1
    omega
  · split at h
    · rename_i h1
      simp only [Option.some.injEq, Prod.mk.injEq] at h
      have := hin _ (by omega) h1
      omega
    · split at h
      · rename_i h1
        simp only [Option.some.injEq, Prod.mk.injEq] at h
        have := hin _ (by omega) h1
        omega
      · split at h
        · split at h
          · rename_i hb
            split at h
            · simp only [Option.some.injEq, Prod.mk.injEq] at h
              have := (List.getElem?_eq_some_iff.1 hb).1
              omega
            · cases h
          · cases h
        · cases h
/-- a text: its bytes and its end, or none -/
theorem text_joint (s : List UInt8) (hl : s.length ≤ 2000) (q : Treader) (hq : q.f_s = s) (K : Int → List TJTok → Option (TJTok × Int × Treader)) (hK : ∀ r o, K r o = some (⟨0, 0, 0, [], 0⟩, 4, ⟨s, r, o⟩)) (K2 : Unit → Option (List UInt8 × Int)) (hK2 : K2 () = some ([], -1)) (o : List TJTok) : ∀ (d p : Nat) (out : List Int), s.length ≤ p + d → p ≤ s.length → out.length ≤ p →
    (∃ (t : List UInt8) (e : Nat), p < e ∧ e ≤ s.length ∧ (∀ m, clerestory_jlex_reader_text1_l0 q K (m + d + 1) (p : Int) o out = some (⟨3, 0, 0, t, 0⟩, 0, ⟨s, (e : Int), o⟩)) ∧ ∀ m, clerestoryref4_textAt_l6 s K2 (m + d + 1) (byts out) (p : Int) = some (t, (e : Int))) ∨
    ((∃ r : Int, ∀ m, clerestory_jlex_reader_text1_l0 q K (m + d + 1) (p : Int) o out = some (⟨0, 0, 0, [], 0⟩, 4, ⟨s, r, o⟩)) ∧ ∀ m, clerestoryref4_textAt_l6 s K2 (m + d + 1) (byts out) (p : Int) = some ([], -1))
  | 0, p, out, hd, hp, ho => by
    right
    refine ⟨⟨p, fun m => ?_⟩, fun m => ?_⟩
    · rw [clerestory_jlex_reader_text1_l0, hq, if_neg (by simp only [decide_eq_true_eq]; omega), hK]
    · rw [clerestoryref4_textAt_l6, if_neg (by simp only [decide_eq_true_eq]; omega), hK2]
  | d + 1, p, out, hd, hp, ho => by
    by_cases h : p < s.length
    · have e2 : wi ((p : Int) + 1) = ((p + 1 : Nat) : Int) := by rw [wi_id (by omega) (by omega)]; omega
      have e3 : sub? s (p : Int) ((p + 1 : Nat) : Int) = some [s[p]] := by
        rw [sub_nat (by omega) (by omega)]
        congr 1
        rw [List.drop_take, show p + 1 - p = 1 by omega, List.drop_eq_getElem_cons h]
        rfl
      have hbl : (byts out).length ≤ 2000 := by rw [byts_length]; omega
      by_cases c34 : s[p].toNat = 34
      · left
        have hc : s[p] = 34 := (u8_eq (c := s[p]) (n := 34) (by omega)).1 (by omega)
        refine ⟨byts out, p + 1, by omega, by omega, fun m => ?_, fun m => ?_⟩
        · rw [clerestory_jlex_reader_text1_l0, hq, if_pos (by simp only [decide_eq_true_eq]; omega), at_some h, Option.bind_some, if_pos (by simp only [decide_eq_true_eq]; omega), e2]
        · rw [clerestoryref4_textAt_l6, if_pos (by simp only [decide_eq_true_eq]; omega), e2, e3, Option.bind_some, if_pos (by rw [hc]; decide)]
      · have hn34 : ¬ (decide ([s[p]] = ([34] : List UInt8)) = true) := by
          intro hh
          have : s[p] = 34 := by simpa using hh
          rw [this] at c34
          exact c34 rfl
        by_cases c32 : s[p].toNat < 32
        · right
          refine ⟨⟨((p + 1 : Nat) : Int), fun m => ?_⟩, fun m => ?_⟩
          · rw [clerestory_jlex_reader_text1_l0, hq, if_pos (by simp only [decide_eq_true_eq]; omega), at_some h, Option.bind_some, if_neg (by simp only [decide_eq_true_eq]; omega), if_pos (by simp only [decide_eq_true_eq]; omega), e2]
          · rw [clerestoryref4_textAt_l6, if_pos (by simp only [decide_eq_true_eq]; omega), e2, e3, Option.bind_some, if_neg hn34, at_some h, Option.bind_some, if_pos (by simp only [decide_eq_true_eq]; omega)]
        · by_cases c92 : s[p].toNat = 92
          · have hq1 : ∀ m, clerestory_jlex_reader_text1_l0 q K (m + (d + 1) + 1) (p : Int) o out = (match escF s (p + 1) with
                | some (c, n) => clerestory_jlex_reader_text1_l0 q K (m + d + 1) ((p + 1 + n : Nat) : Int) o (out ++ [(c.toNat : Int)])
                | none => some (⟨0, 0, 0, [], 0⟩, 4, ⟨s, ((p + 1 : Nat) : Int), o⟩)) := by
              intro m
              rw [show m + (d + 1) + 1 = (m + d + 1) + 1 by omega, clerestory_jlex_reader_text1_l0, hq, if_pos (by simp only [decide_eq_true_eq]; omega), at_some h, Option.bind_some, if_neg (by simp only [decide_eq_true_eq]; omega), if_neg (by simp only [decide_eq_true_eq]; omega), if_pos (by simp only [decide_eq_true_eq]; omega), e2, esc_eq s hl (p + 1) (by omega) o, Option.bind_some]
              cases he : escF s (p + 1) with
              | none => simp only; rw [if_pos (by simp)]
              | some v =>
                obtain ⟨c, n⟩ := v
                have := escF_le he
                simp only
                rw [if_neg (by simp only [decide_eq_true_eq]; omega)]
                unfold clerestory_jlex_reader_text1_j3
                rw [appq (by simp; omega), Option.bind_some, wi_id (by omega) (by omega)]
                rfl
            have hq2 := fun m => text_esc s hl p h c92 (byts out) hbl K2 (m + d + 1)
            cases he : escF s (p + 1) with
            | none =>
              right
              refine ⟨⟨((p + 1 : Nat) : Int), fun m => ?_⟩, fun m => ?_⟩
              · have := hq1 m; rw [he] at this; exact this
              · have := hq2 m; rw [he] at this; exact this
            | some v =>
              obtain ⟨c, n⟩ := v
              have hle := escF_le he
              have ih := text_joint s hl q hq K hK K2 hK2 o d (p + 1 + n) (out ++ [(c.toNat : Int)]) (by omega) (by omega) (by simp; omega)
              rw [byts_snoc] at ih
              rcases ih with ⟨t, e, h1, h2, h3, h4⟩ | ⟨⟨r, h3⟩, h4⟩
              · left
                refine ⟨t, e, by omega, h2, fun m => ?_, fun m => ?_⟩
                · have := hq1 m; rw [he] at this; exact this.trans (h3 m)
                · have := hq2 m; rw [he] at this; exact this.trans (h4 m)
              · right
                refine ⟨⟨r, fun m => ?_⟩, fun m => ?_⟩
                · have := hq1 m; rw [he] at this; exact this.trans (h3 m)
                · have := hq2 m; rw [he] at this; exact this.trans (h4 m)
          · have hn92 : ((!decide ([s[p]] = ([92] : List UInt8))) = true) := by
              have : s[p] ≠ 92 := by
                intro hh
                rw [hh] at c92
                exact c92 rfl
              simp [this]
            have hq1 : ∀ m, clerestory_jlex_reader_text1_l0 q K (m + (d + 1) + 1) (p : Int) o out = clerestory_jlex_reader_text1_l0 q K (m + d + 1) ((p + 1 : Nat) : Int) o (out ++ [(s[p].toNat : Int)]) := by
              intro m
              rw [show m + (d + 1) + 1 = (m + d + 1) + 1 by omega, clerestory_jlex_reader_text1_l0, hq, if_pos (by simp only [decide_eq_true_eq]; omega), at_some h, Option.bind_some, if_neg (by simp only [decide_eq_true_eq]; omega), if_neg (by simp only [decide_eq_true_eq]; omega), if_neg (by simp only [decide_eq_true_eq]; omega), e2]
              unfold clerestory_jlex_reader_text1_j3
              rw [appq (by simp; omega), Option.bind_some]
            have hq2 : ∀ m, clerestoryref4_textAt_l6 s K2 (m + (d + 1) + 1) (byts out) (p : Int) = clerestoryref4_textAt_l6 s K2 (m + d + 1) (byts out ++ [s[p]]) ((p + 1 : Nat) : Int) := by
              intro m
              rw [show m + (d + 1) + 1 = (m + d + 1) + 1 by omega, clerestoryref4_textAt_l6, if_pos (by simp only [decide_eq_true_eq]; omega), e2, e3, Option.bind_some, if_neg hn34, at_some h, Option.bind_some, if_neg (by simp only [decide_eq_true_eq]; omega), if_pos hn92, catq (by simp; omega), Option.bind_some]
              unfold clerestoryref4_textAt_j35
              rw [e2]
            have ih := text_joint s hl q hq K hK K2 hK2 o d (p + 1) (out ++ [(s[p].toNat : Int)]) (by omega) (by omega) (by simp; omega)
            rw [byts_snoc] at ih
            rcases ih with ⟨t, e, h1, h2, h3, h4⟩ | ⟨⟨r, h3⟩, h4⟩
            · left
              exact ⟨t, e, by omega, h2, fun m => (hq1 m).trans (h3 m), fun m => (hq2 m).trans (h4 m)⟩
            · right
              exact ⟨⟨r, fun m => (hq1 m).trans (h3 m)⟩, fun m => (hq2 m).trans (h4 m)⟩
    · right
      refine ⟨⟨p, fun m => ?_⟩, fun m => ?_⟩
      · rw [clerestory_jlex_reader_text1_l0, hq, if_neg (by simp only [decide_eq_true_eq]; omega), hK]
      · rw [clerestoryref4_textAt_l6, if_neg (by simp only [decide_eq_true_eq]; omega), hK2]
theorem text_eq (s : List UInt8) (hl : s.length ≤ 2000) (p : Nat) (hp : p < s.length) (o : List TJTok) :
    (∃ (t : List UInt8) (e : Nat), p < e ∧ e ≤ s.length ∧ clerestory_jlex_reader_text1 ⟨s, (p : Int), o⟩ = some (⟨3, 0, 0, t, 0⟩, 0, ⟨s, (e : Int), o⟩) ∧ clerestoryref4_textAt s (p : Int) = some (t, (e : Int))) ∨
    ((∃ r : Int, clerestory_jlex_reader_text1 ⟨s, (p : Int), o⟩ = some (⟨0, 0, 0, [], 0⟩, 4, ⟨s, r, o⟩)) ∧ clerestoryref4_textAt s (p : Int) = some ([], -1)) := by
  have e2 : wi ((p : Int) + 1) = ((p + 1 : Nat) : Int) := by rw [wi_id (by omega) (by omega)]; omega
  have j := text_joint s hl ⟨s, (p : Int), o⟩ rfl (fun (r11 : Int) (r21 : (List TJTok)) => some ((⟨0, 0, 0, [], 0⟩ : TJTok), 4, (⟨s, r11, r21⟩ : Treader))) (fun r o => rfl) (fun (_ : Unit) => some ([], (-1))) rfl o (s.length - (p + 1)) (p + 1) [] (by omega) (by omega) (by simp)
  unfold clerestory_jlex_reader_text1 clerestoryref4_textAt
  rw [e2]
  rcases j with ⟨t, e, h1, h2, h3, h4⟩ | ⟨⟨r, h3⟩, h4⟩
  · left
    exact ⟨t, e, by omega, h2, lim_add (s.length - (p + 1) + 1) (fun m => h3 m), lim_add (s.length - (p + 1) + 1) (fun m => h4 m)⟩
  · right
    exact ⟨⟨r, lim_add (s.length - (p + 1) + 1) (fun m => h3 m)⟩, lim_add (s.length - (p + 1) + 1) (fun m => h4 m)⟩
end Go.Proofs.YtagfmlkihindaaaDoorBv
