/- A script's tokens: the program's and the document's as the same plain functions. No program is in sight. -/
import Derived.Test.YtagfmlkihindaaaDoorShJlexSays
import Derived.Test.YtagfmlkihindaaaDoorBv23
namespace Go.Proofs.YtagfmlkihindaaaDoorBv
open Go
set_option linter.unusedSimpArgs false
set_option linter.unusedVariables false
/-! ### bytes -/
def hx (c : UInt8) : Int := Lib.indexByte [48, 49, 50, 51, 52, 53, 54, 55, 56, 57, 97, 98, 99, 100, 101, 102] c
theorem hx_all (c : UInt8) : -1 ≤ hx c ∧ hx c < 16 ∧ (127 < c.toNat → hx c < 0) ∧ (c.toNat = 0 → hx c < 0) := by
  have := u8_all (p := fun c => decide (-1 ≤ hx c ∧ hx c < 16 ∧ (127 < c.toNat → hx c < 0) ∧ (c.toNat = 0 → hx c < 0))) (by decide +kernel) c
  exact of_decide_eq_true this
def nameB (c : UInt8) : Bool := clerestory_jlex_reader_name_fn1 (c.toNat : Int)
def digB (c : UInt8) : Bool := jlex_digit (c.toNat : Int)
def letB (c : UInt8) : Bool := jlex_letter (c.toNat : Int)
def blankB (c : UInt8) : Bool := ((((decide ((c.toNat : Int) = 32)) || (decide ((c.toNat : Int) = 9))) || (decide ((c.toNat : Int) = 10))) || (decide ((c.toNat : Int) = 13)))
theorem nameByte_eq (c : UInt8) : clerestoryref4_nameByte (c.toNat : Int) = nameB c := by
  have := u8_all (p := fun c => decide (clerestoryref4_nameByte (c.toNat : Int) = nameB c)) (by decide +kernel) c
  exact of_decide_eq_true this
theorem between_dig (c : UInt8) : clerestoryref4_Between (wr .i64 (c.toNat : Int)) 48 57 = digB c := by
  have := u8_all (p := fun c => decide (clerestoryref4_Between (wr .i64 (c.toNat : Int)) 48 57 = digB c)) (by decide +kernel) c
  exact of_decide_eq_true this
theorem bytes_all (c : UInt8) : nameB c = (letB c || digB c) ∧ (digB c = true → letB c = false ∧ 48 ≤ c.toNat ∧ c.toNat ≤ 57) ∧ (nameB c = true → c.toNat ≠ 32 ∧ c.toNat ≠ 34 ∧ c.toNat ≠ 47 ∧ blankB c = false) ∧ (blankB c = true → c.toNat ≠ 47 ∧ letB c = false ∧ digB c = false ∧ c.toNat ≠ 34) := by
  have := u8_all (p := fun c => decide (nameB c = (letB c || digB c) ∧ (digB c = true → letB c = false ∧ 48 ≤ c.toNat ∧ c.toNat ≤ 57) ∧ (nameB c = true → c.toNat ≠ 32 ∧ c.toNat ≠ 34 ∧ c.toNat ≠ 47 ∧ blankB c = false) ∧ (blankB c = true → c.toNat ≠ 47 ∧ letB c = false ∧ digB c = false ∧ c.toNat ≠ 34))) (by decide +kernel) c
  exact of_decide_eq_true this
theorem u8_eq {c : UInt8} {n : Nat} (hn : n < 256) : (c.toNat : Int) = (n : Int) ↔ c = UInt8.ofNat n := by
  constructor
  · intro h
    have : c.toNat = n := by omega
    rw [← this, UInt8.ofNat_toNat]
  · rintro rfl
    rw [UInt8.toNat_ofNat']
    omega
/-! ### runs -/
def rl (p : UInt8 → Bool) (s : List UInt8) (i : Nat) : Nat := i + ((s.drop i).takeWhile p).length
theorem rl_end {p : UInt8 → Bool} {s : List UInt8} {i : Nat} (h : s.length ≤ i) : rl p s i = i := by unfold rl; rw [List.drop_eq_nil_of_le h]; simp
theorem rl_stop {p : UInt8 → Bool} {s : List UInt8} {i : Nat} (h : i < s.length) (hp : p s[i] = false) : rl p s i = i := by unfold rl; rw [List.drop_eq_getElem_cons h, List.takeWhile_cons, if_neg (by simp [hp])]; simp
theorem rl_step {p : UInt8 → Bool} {s : List UInt8} {i : Nat} (h : i < s.length) (hp : p s[i] = true) : rl p s i = rl p s (i + 1) := by
  unfold rl
  rw [List.drop_eq_getElem_cons h, List.takeWhile_cons, if_pos hp, List.length_cons]
  omega
theorem rl_le (p : UInt8 → Bool) (s : List UInt8) (i : Nat) (h : i ≤ s.length) : i ≤ rl p s i ∧ rl p s i ≤ s.length := by
  unfold rl
  have := dropWhile_take p (s.drop i)
  rw [List.length_drop] at this
  omega
theorem tw_at (p : UInt8 → Bool) : ∀ (l : List UInt8) (c : UInt8), l[(l.takeWhile p).length]? = some c → p c = false
  | [], c, h => by simp at h
  | x :: r, c, h => by
    by_cases hx : p x = true
    · rw [List.takeWhile_cons, if_pos hx, List.length_cons, List.getElem?_cons_succ] at h
      exact tw_at p r c h
    · rw [List.takeWhile_cons, if_neg hx] at h
      simp at h
      subst h
      simpa using hx
theorem rl_at {p : UInt8 → Bool} {s : List UInt8} {i : Nat} (h : rl p s i < s.length) : p s[rl p s i] = false := by
  refine tw_at p (s.drop i) _ ?_
  rw [List.getElem?_drop, List.getElem?_eq_getElem (by exact h)]
  rfl
theorem rl_slice (p : UInt8 → Bool) (s : List UInt8) (i : Nat) : (s.take (rl p s i)).drop i = (s.drop i).takeWhile p := by
  rw [List.drop_take]
  unfold rl
  rw [Nat.add_sub_cancel_left]
  exact take_takeWhile p (s.drop i)
theorem run_name (s : List UInt8) (hl : s.length ≤ 2000) (q : Treader) (hq : q.f_s = s) (K : Int → List TJTok → Option (List UInt8 × Treader)) : ∀ (d i : Nat) (out : List TJTok), i + d = s.length → ∀ m, clerestory_jlex_reader_run11_l0 q K (m + d + 1) (i : Int) out = K (rl nameB s i : Int) out
  | 0, i, out, hi, m => by
    rw [clerestory_jlex_reader_run11_l0, hq, if_neg (by simp only [decide_eq_true_eq]; omega), rl_end (by omega)]
    rfl
  | d + 1, i, out, hi, m => by
    have h : i < s.length := by omega
    rw [clerestory_jlex_reader_run11_l0, hq, if_pos (by simp only [decide_eq_true_eq]; omega), at_some h, Option.bind_some]
    unfold clerestory_jlex_reader_run11_j3
    cases hp : nameB s[i] with
    | true =>
      rw [if_pos (show clerestory_jlex_reader_name_fn1 (s[i].toNat : Int) = true from hp), wi_id (by omega) (by omega), show (i : Int) + 1 = ((i + 1 : Nat) : Int) by omega, rl_step h hp]
      exact run_name s hl q hq K d (i + 1) out (by omega) m
    | false => rw [if_neg (by rw [show clerestory_jlex_reader_name_fn1 (s[i].toNat : Int) = false from hp]; simp), rl_stop h hp]
theorem run_dig (s : List UInt8) (hl : s.length ≤ 2000) (q : Treader) (hq : q.f_s = s) (K : Int → List TJTok → Option (List UInt8 × Treader)) : ∀ (d i : Nat) (out : List TJTok), i + d = s.length → ∀ m, clerestory_jlex_reader_run111_l0 q K (m + d + 1) (i : Int) out = K (rl digB s i : Int) out
  | 0, i, out, hi, m => by
    rw [clerestory_jlex_reader_run111_l0, hq, if_neg (by simp only [decide_eq_true_eq]; omega), rl_end (by omega)]
    rfl
  | d + 1, i, out, hi, m => by
    have h : i < s.length := by omega
    rw [clerestory_jlex_reader_run111_l0, hq, if_pos (by simp only [decide_eq_true_eq]; omega), at_some h, Option.bind_some]
    unfold clerestory_jlex_reader_run111_j3
    cases hp : digB s[i] with
    | true =>
      rw [if_pos (show jlex_digit (s[i].toNat : Int) = true from hp), wi_id (by omega) (by omega), show (i : Int) + 1 = ((i + 1 : Nat) : Int) by omega, rl_step h hp]
      exact run_dig s hl q hq K d (i + 1) out (by omega) m
    | false => rw [if_neg (by rw [show jlex_digit (s[i].toNat : Int) = false from hp]; simp), rl_stop h hp]
theorem runN_eq (s : List UInt8) (hl : s.length ≤ 2000) (p : Nat) (hp : p ≤ s.length) (out : List TJTok) : clerestory_jlex_reader_run11 ⟨s, (p : Int), out⟩ = some ((s.drop p).takeWhile nameB, ⟨s, (rl nameB s p : Int), out⟩) := by
  unfold clerestory_jlex_reader_run11
  have hle := rl_le nameB s p hp
  refine lim_add (s.length - p + 1) fun m => ?_
  have := run_name s hl ⟨s, (p : Int), out⟩ rfl (fun (r11 : Int) (r21 : (List TJTok)) => (sub? s (p : Int) r11).bind fun r_1 => some (r_1, (⟨s, r11, r21⟩ : Treader))) (s.length - p) p out (by omega) m
  refine this.trans ?_
  rw [sub_nat hle.1 hle.2, Option.bind_some, rl_slice]
theorem runD_eq (s : List UInt8) (hl : s.length ≤ 2000) (p : Nat) (hp : p ≤ s.length) (out : List TJTok) : clerestory_jlex_reader_run111 ⟨s, (p : Int), out⟩ = some ((s.drop p).takeWhile digB, ⟨s, (rl digB s p : Int), out⟩) := by
  unfold clerestory_jlex_reader_run111
  have hle := rl_le digB s p hp
  refine lim_add (s.length - p + 1) fun m => ?_
  have := run_dig s hl ⟨s, (p : Int), out⟩ rfl (fun (r11 : Int) (r21 : (List TJTok)) => (sub? s (p : Int) r11).bind fun r_1 => some (r_1, (⟨s, r11, r21⟩ : Treader))) (s.length - p) p out (by omega) m
  refine this.trans ?_
  rw [sub_nat hle.1 hle.2, Option.bind_some, rl_slice]
def pk (s : List UInt8) (i : Nat) : Int := match s[i]? with
  | some c => (c.toNat : Int)
  | none => 0
theorem pk_in {s : List UInt8} {i : Nat} (h : i < s.length) : pk s i = (s[i].toNat : Int) := by unfold pk; rw [List.getElem?_eq_getElem h]
theorem pk_out {s : List UInt8} {i : Nat} (h : s.length ≤ i) : pk s i = 0 := by unfold pk; rw [List.getElem?_eq_none h]
theorem peek_eq (s : List UInt8) (hl : s.length ≤ 2000) (p n : Nat) (hp : p ≤ s.length) (hn : n ≤ 2) (out : List TJTok) : clerestory_jlex_reader_peek ⟨s, (p : Int), out⟩ (n : Int) = some (pk s (p + n)) := by
  unfold clerestory_jlex_reader_peek
  simp only
  rw [wi_id (by omega) (by omega), show (p : Int) + (n : Int) = ((p + n : Nat) : Int) by omega]
  by_cases h : p + n < s.length
  · rw [if_pos (by simp only [decide_eq_true_eq]; omega), at_some h, Option.bind_some, pk_in h]
  · rw [if_neg (by simp only [decide_eq_true_eq]; omega), pk_out (by omega)]
/-! ### words -/
def wordsL : List (List UInt8) := Lib.fields [108, 101, 116, 32, 102, 110, 32, 105, 102, 32, 101, 108, 115, 101, 32, 119, 104, 105, 108, 101, 32, 102, 111, 114, 32, 111, 102, 32, 114, 101, 116, 117, 114, 110, 32, 98, 114, 101, 97, 107, 32, 99, 111, 110, 116, 105, 110, 117, 101, 32, 116, 104, 114, 111, 119, 32, 116, 114, 121, 32, 99, 97, 116, 99, 104, 32, 102, 105, 110, 97, 108, 108, 121, 32, 116, 114, 117, 101, 32, 102, 97, 108, 115, 101, 32, 110, 117, 108, 108]
theorem words_eq : strings_Fields [108, 101, 116, 32, 102, 110, 32, 105, 102, 32, 101, 108, 115, 101, 32, 119, 104, 105, 108, 101, 32, 102, 111, 114, 32, 111, 102, 32, 114, 101, 116, 117, 114, 110, 32, 98, 114, 101, 97, 107, 32, 99, 111, 110, 116, 105, 110, 117, 101, 32, 116, 104, 114, 111, 119, 32, 116, 114, 121, 32, 99, 97, 116, 99, 104, 32, 102, 105, 110, 97, 108, 108, 121, 32, 116, 114, 117, 101, 32, 102, 97, 108, 115, 101, 32, 110, 117, 108, 108] = some wordsL := by
  show fields? _ = _
  unfold fields?
  rw [if_pos (by decide)]
  rfl
theorem words_len : wordsL.length ≤ 1000 := by decide +kernel
theorem sidx_l0 (l : List (List UInt8)) (v : List UInt8) (hl : l.length ≤ 1000) : ∀ (d i : Nat), i + d = l.length → ∃ r : Int, (0 ≤ r ↔ v ∈ l.drop i) ∧ ∀ m, slices_Index_string_l0 l v (fun _ => some (-1)) (m + d + 1) (i : Int) = some r
  | 0, i, hi => by
    refine ⟨-1, by rw [List.drop_eq_nil_of_le (by omega)]; simp, fun m => ?_⟩
    rw [slices_Index_string_l0, if_neg (by simp only [decide_eq_true_eq]; omega)]
  | d + 1, i, hi => by
    have h : i < l.length := by omega
    obtain ⟨r, r1, r2⟩ := sidx_l0 l v hl d (i + 1) (by omega)
    by_cases hv : v = l[i]
    · refine ⟨i, by rw [List.drop_eq_getElem_cons h, hv]; exact ⟨fun _ => List.mem_cons_self, fun _ => by omega⟩, fun m => ?_⟩
      rw [slices_Index_string_l0, if_pos (by simp only [decide_eq_true_eq]; omega), at_some h, Option.bind_some, if_pos (by simpa using hv)]
    · refine ⟨r, by rw [r1, List.drop_eq_getElem_cons h, List.mem_cons]; exact ⟨Or.inr, fun h' => h'.resolve_left hv⟩, fun m => ?_⟩
      rw [slices_Index_string_l0, if_pos (by simp only [decide_eq_true_eq]; omega), at_some h, Option.bind_some, if_neg (by simpa using hv), wi_id (by omega) (by omega), show (i : Int) + 1 = ((i + 1 : Nat) : Int) by omega]
      exact r2 m
theorem contains_eq (l : List (List UInt8)) (v : List UInt8) (hl : l.length ≤ 1000) : slices_Contains_string l v = some (decide (v ∈ l)) := by
  obtain ⟨r, r1, r2⟩ := sidx_l0 l v hl l.length 0 (by omega)
  unfold slices_Contains_string slices_Index_string
  rw [show (lim fun kk => slices_Index_string_l0 l v (fun _ => some (-1)) kk 0) = some r from lim_add (l.length + 1) fun m => r2 m, Option.bind_some]
  congr 1
  rw [Bool.eq_iff_iff]
  simpa using r1
theorem name_eq (s : List UInt8) (hl : s.length ≤ 2000) (p : Nat) (hp : p ≤ s.length) (out : List TJTok) : clerestory_jlex_reader_name1 ⟨s, (p : Int), out⟩ = some (⟨if (s.drop p).takeWhile nameB ∈ wordsL then 5 else 1, 0, 0, (s.drop p).takeWhile nameB, 0⟩, ⟨s, (rl nameB s p : Int), out⟩) := by
  unfold clerestory_jlex_reader_name1 clerestory_jlex_reader_name1_j1
  rw [runN_eq s hl p hp out, Option.bind_some, words_eq, Option.bind_some, contains_eq _ _ words_len, Option.bind_some]
  by_cases h : (s.drop p).takeWhile nameB ∈ wordsL
  · rw [if_pos (by simpa using h), if_pos h]
  · rw [if_neg (by simpa using h), if_neg h]
def wText : List UInt8 := [32, 108, 101, 116, 32, 102, 110, 32, 105, 102, 32, 101, 108, 115, 101, 32, 119, 104, 105, 108, 101, 32, 102, 111, 114, 32, 111, 102, 32, 114, 101, 116, 117, 114, 110, 32, 98, 114, 101, 97, 107, 32, 99, 111, 110, 116, 105, 110, 117, 101, 32, 116, 104, 114, 111, 119, 32, 116, 114, 121, 32, 99, 97, 116, 99, 104, 32, 102, 105, 110, 97, 108, 108, 121, 32, 116, 114, 117, 101, 32, 102, 97, 108, 115, 101, 32, 110, 117, 108, 108, 32]
/-- a word between blanks in a text of words -/
theorem occ_word (w : List UInt8) (hw : ∀ c, c ∈ w → c ≠ 32) : ∀ (t : List UInt8), (32 :: w ++ [32]).isPrefixOf t = true → t.tail.takeWhile (fun c => decide (c ≠ 32)) = w
  | [], h => by simp at h
  | x :: r, h => by
    rw [List.cons_append, List.isPrefixOf_cons_cons, Bool.and_eq_true] at h
    have h2 : w ++ [32] <+: r := List.isPrefixOf_iff_prefix.1 h.2
    obtain ⟨r', rfl⟩ := h2
    show (w ++ [32] ++ r').takeWhile _ = w
    rw [List.append_assoc, List.takeWhile_append_of_pos (by simpa using hw)]
    simp
def wordsAt : Nat → List UInt8 → List (List UInt8)
  | 0, _ => []
  | n + 1, t => if t.head? = some 32 then (t.tail.takeWhile fun c => decide (c ≠ 32)) :: wordsAt n t.tail else wordsAt n t.tail
theorem index_word (w : List UInt8) (hw : ∀ c, c ∈ w → c ≠ 32) : ∀ (t : List UInt8), 0 ≤ Lib.index t (32 :: w ++ [32]) → w ∈ wordsAt (t.length + 1) t
  | [], h => by simp [Lib.index] at h
  | x :: r, h => by
    rw [wordsAt]
    by_cases hp : (32 :: w ++ [32]).isPrefixOf (x :: r) = true
    · have hx := hp
      rw [List.cons_append, List.isPrefixOf_cons_cons, Bool.and_eq_true] at hx
      have hx1 : x = 32 := (beq_iff_eq.1 hx.1).symm
      rw [occ_word w hw _ hp, if_pos (by rw [hx1]; rfl)]
      exact List.mem_cons_self
    · have h2 : 0 ≤ Lib.index r (32 :: w ++ [32]) := by
        generalize 32 :: w ++ [32] = z at h hp ⊢
        unfold Lib.index at h
        rw [if_neg hp] at h
        by_cases h3 : Lib.index r z = -1
        · rw [if_pos (by simp [h3])] at h; omega
        · have := Lib.index_ge r z; omega
      have ih := index_word w hw r h2
      split
      · exact List.mem_cons_of_mem _ ih
      · exact ih
theorem text_words : ((wordsAt (wText.length + 1) wText).all fun w => decide (w = [] ∨ w ∈ wordsL)) = true ∧ (wordsL.all fun w => decide (w ≠ [] ∧ 0 ≤ Lib.index wText (32 :: w ++ [32]))) = true := by decide +kernel
theorem isWord_eq (w : List UInt8) (hl : w.length ≤ 2000) (hw : ∀ c, c ∈ w → c ≠ 32) : clerestoryref4_isWord w = some (decide (w ∈ wordsL)) := by
  unfold clerestoryref4_isWord clerestoryref4_isWord_j1
  by_cases h0 : w = []
  · subst h0
    rw [if_neg (by simp), show decide (([] : List UInt8) ∈ wordsL) = false by decide +kernel]
  · rw [if_pos (by simp [h0]), catq (by simp; omega), Option.bind_some, catq (by simp; omega), Option.bind_some]
    have hc : strings_Contains wText ([32] ++ w ++ [32]) = some (decide (0 ≤ Lib.index wText (32 :: w ++ [32]))) := by
      show contains? wText ([32] ++ w ++ [32]) = _
      match w, h0 with
      | c :: r, _ =>
        unfold contains?
        simp only [List.cons_append, List.nil_append]
        rw [if_pos (by decide)]
        rfl
    show ((strings_Contains wText ([32] ++ w ++ [32])).bind fun r_2 => some r_2) = _
    rw [hc, Option.bind_some]
    congr 1
    rw [Bool.eq_iff_iff, decide_eq_true_iff, decide_eq_true_iff]
    constructor
    · intro h
      have hm := index_word w hw wText h
      have := List.all_eq_true.1 text_words.1 w hm
      rcases of_decide_eq_true this with h | h
      · exact absurd h h0
      · exact h
    · intro h
      have := List.all_eq_true.1 text_words.2 w h
      exact (of_decide_eq_true this).2
end Go.Proofs.YtagfmlkihindaaaDoorBv
