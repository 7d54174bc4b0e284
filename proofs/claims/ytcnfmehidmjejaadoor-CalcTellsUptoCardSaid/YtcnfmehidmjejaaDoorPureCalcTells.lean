/- The law of the text of a term, over plain values. No program is in sight. -/
import Derived.Test.YtcnfmehidmjejaaDoorRoundsCalcTells
import Derived.Test.YtcnfmehidmjejaaDoorDTextCalcTells
import Derived.Test.YtcnfmehidmjejaaDoorJoinSCalcTells
namespace Go.Proofs.YtcnfmehidmjejaaDoorBv
open Go
set_option linter.unusedSimpArgs false
set_option linter.unusedVariables false
theorem twice_eq : clerestorylaw2_twice = some true := by kernel_rfl
def bt (t : TSTerm) : Nat := bulkL (e_TSTerm t)
theorem kids_of : ∀ (S : List Raw), (∀ y, y ∈ S → ∃ D, Shape Tryd.prog D 26 y.c) → ∃ xs : List TSTerm, S.map (·.c) = xs.map e_TSTerm ∧ ∀ x, x ∈ xs → ok26 x
  | [], _ => ⟨[], rfl, fun x h => by cases h⟩
  | y :: r, h => by
    obtain ⟨xs, e1, e2⟩ := kids_of r fun z hz => h z (List.mem_cons_of_mem _ hz)
    obtain ⟨D, hD⟩ := h y (List.mem_cons_self ..)
    obtain ⟨x, f1, f2⟩ := raw26 hD
    refine ⟨x :: xs, by rw [List.map_cons, List.map_cons, e1, f1], fun z hz => ?_⟩
    rcases List.mem_cons.1 hz with rfl | hz
    · exact f2
    · exact e2 z hz
theorem bulk_eq (t : TSTerm) (xs : List TSTerm) (e : t.Subs.map (·.c) = xs.map e_TSTerm) : bt t = 4 + t.Dim.Unit.length + (xs.map bt).sum := by
  have e' : t.Subs.map eRaw = xs.map e_TSTerm := e
  have hb : bulkE (xs.map e_TSTerm) = (xs.map bt).sum := bulkE_map e_TSTerm xs
  show bulkL [cI t.Kind, cI t.Dim.Num, .str t.Dim.Unit, .ro false 4 (t.Subs.map eRaw)] = _
  simp only [bulkL, cI, bulkC, e', hb]
  omega
theorem kid_at {t : TSTerm} {xs : List TSTerm} (e : t.Subs.map (·.c) = xs.map e_TSTerm) {i : Nat} (hi : i < xs.length) : ∃ r, at? t.Subs (i : Int) = some r ∧ d_TSTerm r.c = some xs[i] := by
  have hl : t.Subs.length = xs.length := by have := congrArg List.length e; simpa using this
  refine ⟨t.Subs[i], at_some (by omega), ?_⟩
  have h1 : (t.Subs.map (·.c))[i]? = (xs.map e_TSTerm)[i]? := by rw [e]
  rw [List.getElem?_map, List.getElem?_map, List.getElem?_eq_getElem hi, List.getElem?_eq_getElem (show i < t.Subs.length by omega)] at h1
  simp only [Option.map_some, Option.some.injEq] at h1
  rw [h1]
  exact d_TSTerm_c _
theorem sum_le_of {xs : List TSTerm} {f : TSTerm → Nat} (g : TSTerm → Nat) (h : ∀ x, x ∈ xs → f x ≤ g x) : (xs.map f).sum ≤ (xs.map g).sum := by
  induction xs with
  | nil => simp
  | cons a r ih => simp only [List.map_cons, List.sum_cons]; have := h a (List.mem_cons_self ..); have := ih fun x hx => h x (List.mem_cons_of_mem _ hx); omega
theorem sum_take_le (f : TSTerm → Nat) (xs : List TSTerm) (i : Nat) : ((xs.take i).map f).sum ≤ (xs.map f).sum := by
  induction xs generalizing i with
  | nil => simp
  | cons a r ih => cases i with
    | zero => simp
    | succ i => simp only [List.take_succ_cons, List.map_cons, List.sum_cons]; have := ih i; omega
theorem sum_mem {f : TSTerm → Nat} {xs : List TSTerm} {x : TSTerm} (h : x ∈ xs) : f x ≤ (xs.map f).sum := by
  induction xs with
  | nil => cases h
  | cons a r ih =>
    simp only [List.map_cons, List.sum_cons]
    rcases List.mem_cons.1 h with rfl | h
    · omega
    · have := ih h; omega
theorem sum_mul (f : TSTerm → Nat) (c : Nat) (xs : List TSTerm) : (xs.map fun x => c * f x).sum = c * (xs.map f).sum := by
  induction xs with
  | nil => simp
  | cons a r ih => simp only [List.map_cons, List.sum_cons, ih, Nat.mul_add]
theorem len_le_sum {f : TSTerm → Nat} (xs : List TSTerm) (h : ∀ x, x ∈ xs → 1 ≤ f x) : xs.length ≤ (xs.map f).sum := by
  induction xs with
  | nil => simp
  | cons a r ih => simp only [List.map_cons, List.sum_cons, List.length_cons]; have := h a (List.mem_cons_self ..); have := ih fun x hx => h x (List.mem_cons_of_mem _ hx); omega
theorem bt_pos (t : TSTerm) : 4 ≤ bt t := by
  unfold bt e_TSTerm; simp only [bulkL, cI, bulkC]; omega
theorem uni {Q : Nat → TSTerm → Prop} : ∀ (xs : List TSTerm), (∀ x, x ∈ xs → ∃ K, ∀ k, K ≤ k → Q k x) → ∃ K, ∀ x, x ∈ xs → ∀ k, K ≤ k → Q k x
  | [], _ => ⟨0, fun x h => by cases h⟩
  | a :: r, h => by
    obtain ⟨K1, h1⟩ := uni r fun x hx => h x (List.mem_cons_of_mem _ hx)
    obtain ⟨K2, h2⟩ := h a (List.mem_cons_self ..)
    refine ⟨K1 + K2, fun x hx k hk => ?_⟩
    rcases List.mem_cons.1 hx with rfl | hx
    · exact h2 k (by omega)
    · exact h1 x hx k (by omega)
theorem shaped_eq (t : TSTerm) : calc_shaped1 t = clerestoryref2_TermMay t := by
  unfold calc_shaped1 calc_shaped1_j1 calc_shaped1_j2 clerestoryref2_TermMay
  by_cases h1 : t.Kind = 1
  · simp [h1]
  by_cases h2 : t.Kind = 2
  · simp [h2]
  by_cases h3 : t.Kind = 3
  · simp [h3]
  by_cases h4 : t.Kind = 4
  · simp [h4]
  by_cases h5 : t.Kind = 5
  · simp [h5]
  by_cases h6 : t.Kind = 6
  · simp [h6]; omega
  by_cases h7 : t.Kind = 7
  · simp [h7]; omega
  have hr : ¬ (2 ≤ t.Kind ∧ t.Kind ≤ 5) := by omega
  have hr' : (decide (2 ≤ t.Kind) && decide (t.Kind ≤ 5)) = false := by
    simp only [Bool.and_eq_false_iff, decide_eq_false_iff_not]; omega
  by_cases h8 : t.Kind = 8
  · simp [h8]
  · simp only [h1, h2, h3, h4, h5, h6, h7, h8, hr', decide_false, Bool.false_eq_true, if_false, Bool.or_self, Bool.false_and]
theorem may_kinds {t : TSTerm} (h : clerestoryref2_TermMay t = true) (h1 : t.Kind ≠ 1) : (t.Kind = 2 ∨ t.Kind = 3 ∨ t.Kind = 4 ∨ t.Kind = 5 ∨ t.Kind = 6 ∨ t.Kind = 7 ∨ t.Kind = 8) ∧ 1 ≤ t.Subs.length := by
  unfold clerestoryref2_TermMay at h
  rw [if_neg (by simpa using h1)] at h
  split at h
  · rename_i h2
    simp only [Bool.and_eq_true, decide_eq_true_eq] at h2 h
    omega
  · split at h
    · rename_i h2
      simp only [Bool.or_eq_true, decide_eq_true_eq] at h2 h
      omega
    · simp only [Bool.and_eq_true, decide_eq_true_eq] at h
      omega
theorem may_one {t : TSTerm} (h : clerestoryref2_TermMay t = true) (h1 : t.Kind = 1) : t.Subs.length = 0 := by
  unfold clerestoryref2_TermMay at h
  rw [if_pos (by simpa using h1)] at h
  simp only [decide_eq_true_eq] at h
  omega
def cgo : List Nat → Nat → Nat
  | [], n => n
  | c :: r, n => if n ≤ 30 then cgo r (n + c) else n
theorem cgo_le : ∀ (l : List Nat) (n : Nat), cgo l n ≤ n + l.sum
  | [], n => by simp [cgo]
  | c :: r, n => by
    unfold cgo
    split
    · have := cgo_le r (n + c); simp only [List.sum_cons]; omega
    · simp only [List.sum_cons]; omega
theorem cgo_small : ∀ (l : List Nat) (n : Nat), cgo l n ≤ 30 → cgo l n = n + l.sum
  | [], n, _ => by simp [cgo]
  | c :: r, n, h => by
    unfold cgo at h ⊢
    split at h
    · rename_i h30
      rw [if_pos h30, cgo_small r (n + c) h]; simp only [List.sum_cons]; omega
    · omega
/-- the count of a term, where its parts are counted -/
theorem count_step (t : TSTerm) (xs : List TSTerm) (e : t.Subs.map (·.c) = xs.map e_TSTerm) (recf : TSTerm → Option Int) (cnt : TSTerm → Nat) (hrec : ∀ x, x ∈ xs → recf x = some (cnt x : Int)) (hb : (xs.map cnt).sum ≤ 100000000) (hn : xs.length ≤ 100000000) :
    lim (fun kk => clerestoryref2_TermCount_l0 t recf (fun n => some n) kk 1 0) = some (cgo (xs.map cnt) 1 : Int) := by
  have hl : t.Subs.length = xs.length := by have := congrArg List.length e; simpa using this
  refine Or.elim (rounds_lim (σ := Int) (fun m s i => clerestoryref2_TermCount_l0 t recf (fun n => some n) m s i) (fun s => some s) xs.length
    (fun i s => ∃ n : Nat, s = (n : Int) ∧ n = 1 + ((xs.take i).map cnt).sum ∧ cgo (xs.map cnt) 1 = cgo ((xs.drop i).map cnt) n) (fun v => v = some (cgo (xs.map cnt) 1 : Int)) 1 ⟨1, rfl, by simp, by simp⟩ ?_ ?_) ?_ ?_
  · intro m s hs
    show clerestoryref2_TermCount_l0 t recf (fun n => some n) (m + 1) s (xs.length : Int) = _
    rw [clerestoryref2_TermCount_l0, if_neg (by rw [hl]; simp)]
  · rintro s i hi ⟨n, rfl, hn1, hgo⟩
    have hsum := sum_take_le cnt xs i
    have hd : xs.drop i = xs[i] :: xs.drop (i + 1) := List.drop_eq_getElem_cons hi
    rw [hd, List.map_cons] at hgo
    by_cases h30 : n ≤ 30
    · left
      obtain ⟨r, r1, r2⟩ := kid_at e hi
      have hx : recf xs[i] = some (cnt xs[i] : Int) := hrec _ (List.getElem_mem hi)
      have hc := sum_mem (f := cnt) (List.getElem_mem hi)
      refine ⟨((n + cnt xs[i] : Nat) : Int), ⟨n + cnt xs[i], rfl, ?_, ?_⟩, fun m => ?_⟩
      · rw [take_succ_get hi, List.map_append, List.sum_append, hn1]; simp; omega
      · rw [hgo, cgo, if_pos h30]
      · show clerestoryref2_TermCount_l0 t recf (fun n => some n) (m + 1) (n : Int) (i : Int) = clerestoryref2_TermCount_l0 t recf (fun n => some n) m _ _
        rw [clerestoryref2_TermCount_l0, if_pos (by rw [hl, lt_pos hi]; simp only [Bool.true_and, decide_eq_true_eq]; omega), r1, Option.bind_some, r2, Option.bind_some, hx, Option.bind_some,
          wi_next hi (by omega), wi_id (by omega) (by omega)]
        congr 1
    · right
      refine ⟨some (n : Int), ?_, fun m => ?_⟩
      · rw [hgo, cgo, if_neg h30]
      · show clerestoryref2_TermCount_l0 t recf (fun n => some n) (m + 1) (n : Int) (i : Int) = _
        rw [clerestoryref2_TermCount_l0, if_neg (by simp only [Bool.and_eq_true, decide_eq_true_eq, not_and]; omega)]
  · rintro ⟨s, ⟨n, rfl, hn1, hgo⟩, h⟩
    rw [List.drop_length] at hgo
    rw [h, hgo]
    rfl
  · rintro ⟨v, rfl, h⟩
    exact h
/-- the text of a term, in the program, where its parts have one -/
theorem text_step (t : TSTerm) (xs : List TSTerm) (e : t.Subs.map (·.c) = xs.map e_TSTerm) (recf : TSTerm → Option (List UInt8)) (txt : TSTerm → List UInt8) (hrec : ∀ x, x ∈ xs → recf x = some (txt x)) (hn : xs.length ≤ 100000000) (K : List (List UInt8) → Option (List UInt8)) :
    lim (fun kk => calc_Text1_l0 t recf K kk ([] : List (List UInt8)) 0) = K (xs.map txt) := by
  have hl : t.Subs.length = xs.length := by have := congrArg List.length e; simpa using this
  refine Exists.elim (rounds_all (σ := List (List UInt8)) (fun m s i => calc_Text1_l0 t recf K m s i) K xs.length (fun i s => s = (xs.take i).map txt) [] (by simp) ?_ ?_) ?_
  · intro m s hs
    show calc_Text1_l0 t recf K (m + 1) s (xs.length : Int) = _
    rw [calc_Text1_l0, if_neg (by rw [hl]; simp)]
  · intro s i hi hs
    obtain ⟨r, r1, r2⟩ := kid_at e hi
    have hx : recf xs[i] = some (txt xs[i]) := hrec _ (List.getElem_mem hi)
    refine ⟨(xs.take (i + 1)).map txt, rfl, fun m => ?_⟩
    show calc_Text1_l0 t recf K (m + 1) s (i : Int) = calc_Text1_l0 t recf K m _ _
    have hsl : s.length ≤ i := by rw [hs]; simp; omega
    rw [calc_Text1_l0, if_pos (by rw [hl]; exact lt_pos hi), r1, Option.bind_some, r2, Option.bind_some, hx, Option.bind_some, appq (by simp only [List.length_cons, List.length_nil]; omega), Option.bind_some, wi_next hi (by omega), hs]
    have e1 : (xs.take (i + 1)).map txt = (xs.take i).map txt ++ [txt xs[i]] := by rw [take_succ_get hi, List.map_append]; rfl
    rw [e1]
  · rintro s ⟨hs, h⟩
    rw [List.take_length] at hs
    rw [h, hs]
/-- the text of a term, in the document -/
theorem ref_step (t : TSTerm) (xs : List TSTerm) (e : t.Subs.map (·.c) = xs.map e_TSTerm) (recf : TSTerm → Option (List UInt8)) (txt : TSTerm → List UInt8) (hrec : ∀ x, x ∈ xs → recf x = some (txt x)) (hn : xs.length ≤ 100000000) (hd sep : List UInt8) (h10 : hd.length ≤ 10) (h3 : sep.length ≤ 3) (hw : wL 3 (xs.map txt) ≤ 1000000000) (K : List UInt8 → Option (List UInt8)) :
    lim (fun kk => clerestoryref2_TermText_l0 t sep recf K kk hd 0) = K (hd ++ joinL sep (xs.map txt)) := by
  have hl : t.Subs.length = xs.length := by have := congrArg List.length e; simpa using this
  have hw' : ∀ i, (joinL sep ((xs.take i).map txt)).length + sep.length ≤ 1000000003 := by
    intro i
    have h1 := joinL_len sep ((xs.take i).map txt)
    have h2 := wL_take sep.length (xs.map txt) i
    have h4 : wL sep.length (xs.map txt) ≤ wL 3 (xs.map txt) := by
      unfold wL
      rw [List.map_map, List.map_map]
      exact sum_le_of (fun x => (txt x).length + 3) fun x _ => by simp only [Function.comp]; omega
    rw [List.map_take] at h1 ⊢
    omega
  refine Exists.elim (rounds_all (σ := List UInt8) (fun m s i => clerestoryref2_TermText_l0 t sep recf K m s i) K xs.length (fun i s => s = hd ++ joinL sep ((xs.take i).map txt)) hd (by simp [joinL]) ?_ ?_) ?_
  · intro m s hs
    show clerestoryref2_TermText_l0 t sep recf K (m + 1) s (xs.length : Int) = _
    rw [clerestoryref2_TermText_l0, if_neg (by rw [hl]; simp)]
  · intro s i hi hs
    obtain ⟨r, r1, r2⟩ := kid_at e hi
    have hx : recf xs[i] = some (txt xs[i]) := hrec _ (List.getElem_mem hi)
    have hxl : (txt xs[i]).length ≤ 1000000000 := by
      have : (txt xs[i]).length + 3 ≤ wL 3 (xs.map txt) := by
        unfold wL
        rw [List.map_map]
        exact sum_mem (f := fun x => (txt x).length + 3) (List.getElem_mem hi)
      omega
    have hsl := hw' i
    have e1 : (xs.take (i + 1)).map txt = (xs.take i).map txt ++ [txt xs[i]] := by rw [take_succ_get hi, List.map_append]; rfl
    refine ⟨_, rfl, fun m => ?_⟩
    show clerestoryref2_TermText_l0 t sep recf K (m + 1) s (i : Int) = clerestoryref2_TermText_l0 t sep recf K m _ _
    rw [clerestoryref2_TermText_l0, if_pos (by rw [hl]; exact lt_pos hi), e1, joinL_snoc]
    by_cases h0 : i = 0
    · subst h0
      rw [if_neg (by simp)]
      unfold clerestoryref2_TermText_j3
      rw [r1, Option.bind_some, r2, Option.bind_some, hx, Option.bind_some, catq (by rw [hs]; simp [joinL]; omega), Option.bind_some, wi_next hi (by omega), hs]
      simp [joinL]
    · have hne : (xs.take i).map txt ≠ [] := by
        intro h
        have h9 : ((xs.take i).map txt).length = 0 := by rw [h]; rfl
        rw [List.length_map, List.length_take] at h9
        omega
      rw [if_pos (by simp only [decide_eq_true_eq]; omega), catq (by rw [hs]; simp only [List.length_append]; omega), Option.bind_some]
      unfold clerestoryref2_TermText_j3
      rw [r1, Option.bind_some, r2, Option.bind_some, hx, Option.bind_some, catq (by rw [hs]; simp only [List.length_append]; omega), Option.bind_some, wi_next hi (by omega), hs, if_neg hne]
      simp
  · rintro s ⟨hs, h⟩
    rw [List.take_length] at hs
    rw [h, hs]
theorem dtext_eq2 (d : TSDim) (hu : d.Unit.length ≤ 140737488355328) : ∃ s, dim_Text1 d = some s ∧ clerestoryref2_DimText d = some s ∧ s.length ≤ 25 + d.Unit.length := by
  obtain ⟨n, n1, n2, n3, n4⟩ := clamp_eq d.Num
  have habs : mx n (wi (0 - n)) = (n.natAbs : Int) := by
    rw [wi_id (by omega) (by omega)]
    unfold mx
    split <;> omega
  have href := ref_eq d hu n n2 n.natAbs (by omega) habs
  refine ⟨_, ?_, href, ?_⟩
  · unfold dim_Text1
    rw [n1]
    by_cases h : n < 0
    · rw [if_pos (by simpa using h), if_pos h, wi_id (by omega) (by omega), show 0 - n = (n.natAbs : Int) by omega, prog_eq d hu _ (by omega) _ (by simp)]
    · have := prog_eq d hu n.natAbs (by omega) [] (by simp)
      rw [show (n.natAbs : Int) = n by omega] at this
      rw [if_neg (by simpa using h), if_neg h, this]
  · have h1 : (Lib.decDigits (n.natAbs / 1000)).length ≤ 20 := by rw [Lib.decDigits_length]; exact Lib.nDigits_le20 _ (by omega)
    have h2 := trimT_len (n.natAbs % 1000)
    have h3 : ((if n < 0 then [45] else []) : List UInt8).length ≤ 1 := by split <;> simp
    unfold bodyF
    by_cases h0 : n.natAbs % 1000 = 0
    · rw [if_pos h0]; simp only [List.length_append, List.length_nil]; omega
    · rw [if_neg h0]; simp only [List.length_append, List.length_cons]; omega
def hdT (k : Int) : List UInt8 := calc_word1 k ++ [40]
theorem kinds_eq {k : Int} (h : k = 2 ∨ k = 3 ∨ k = 4 ∨ k = 5 ∨ k = 6 ∨ k = 7 ∨ k = 8) : at? clerestoryref2_TermText_t0 k = some (hdT k) ∧ at? clerestoryref2_TermText_t1 k = some (calc_sign1 k) ∧ (hdT k).length ≤ 6 ∧ 1 ≤ (calc_sign1 k).length ∧ (calc_sign1 k).length ≤ 3 ∧ cat? (calc_word1 k) [40] = some (hdT k) := by
  rcases h with rfl | rfl | rfl | rfl | rfl | rfl | rfl <;> decide
theorem term_main : ∀ (N : Nat) (t : TSTerm), bt t ≤ N → N ≤ 1048576 → ok26 t → ∃ c : Nat, (∃ K, ∀ k, K ≤ k → clerestoryref2_TermCount_r k t = some (c : Int)) ∧ c ≤ 31 * bt t ∧
    (c ≤ 30 → ∃ s, (∃ K, ∀ k, K ≤ k → calc_Text1_r k t = some s) ∧ (∃ K, ∀ k, K ≤ k → clerestoryref2_TermText_r k t = some s) ∧ s.length + 3 ≤ 20 * bt t)
  | 0, t, hb, _, _ => absurd (bt_pos t) (by omega)
  | N + 1, t, hb, hN, hok => by
    obtain ⟨xs, e, hxs⟩ := kids_of t.Subs hok.2.2.2
    have hbk := bulk_eq t xs e
    have hl : t.Subs.length = xs.length := by have := congrArg List.length e; simpa using this
    have hle : ∀ x, x ∈ xs → bt x ≤ N := fun x hx => by have := sum_mem (f := bt) hx; omega
    have ih : ∀ x, x ∈ xs → _ := fun x hx => term_main N x (hle x hx) (by omega) (hxs x hx)
    obtain ⟨cnt, hcnt⟩ : ∃ cnt : TSTerm → Nat, ∀ x, x ∈ xs → (∃ K, ∀ k, K ≤ k → clerestoryref2_TermCount_r k x = some (cnt x : Int)) ∧ cnt x ≤ 31 * bt x ∧
        (cnt x ≤ 30 → ∃ s, (∃ K, ∀ k, K ≤ k → calc_Text1_r k x = some s) ∧ (∃ K, ∀ k, K ≤ k → clerestoryref2_TermText_r k x = some s) ∧ s.length + 3 ≤ 20 * bt x) := by
      classical
      exact ⟨fun x => if h : x ∈ xs then (ih x h).choose else 0, fun x h => by simp only [dif_pos h]; exact (ih x h).choose_spec⟩
    have hn4 : xs.length ≤ (xs.map bt).sum := len_le_sum xs fun x _ => by have := bt_pos x; omega
    have hn : xs.length ≤ 100000000 := by omega
    have hu : t.Dim.Unit.length ≤ 140737488355328 := by omega
    have hsum : (xs.map cnt).sum ≤ 31 * (xs.map bt).sum := by
      have h1 := sum_le_of (xs := xs) (f := cnt) (fun x => 31 * bt x) fun x hx => (hcnt x hx).2.1
      rw [sum_mul] at h1
      exact h1
    by_cases hm : clerestoryref2_TermMay t = true
    · obtain ⟨K, hK⟩ := uni (Q := fun k x => clerestoryref2_TermCount_r k x = some (cnt x : Int)) xs fun x hx => (hcnt x hx).1
      refine ⟨cgo (xs.map cnt) 1, ⟨K + 1, fun k hk => ?_⟩, ?_, fun h30 => ?_⟩
      · obtain ⟨m, rfl⟩ : ∃ m, k = m + 1 := ⟨k - 1, by omega⟩
        rw [clerestoryref2_TermCount_r, if_neg (by rw [hm]; simp)]
        exact count_step t xs e _ cnt (fun x hx => hK x hx m (by omega)) (by omega) hn
      · have := cgo_le (xs.map cnt) 1
        omega
      · have hc := cgo_small _ _ h30
        have hsh : ¬ ((!(calc_shaped1 t)) = true) := by rw [shaped_eq, hm]; simp
        by_cases h1 : t.Kind = 1
        · obtain ⟨s, s1, s2, s3⟩ := dtext_eq2 t.Dim hu
          refine ⟨s, ⟨1, fun k hk => ?_⟩, ⟨1, fun k hk => ?_⟩, by omega⟩
          · obtain ⟨m, rfl⟩ : ∃ m, k = m + 1 := ⟨k - 1, by omega⟩
            rw [calc_Text1_r, if_neg hsh, if_pos (by simpa using h1), s1]
            rfl
          · obtain ⟨m, rfl⟩ : ∃ m, k = m + 1 := ⟨k - 1, by omega⟩
            rw [clerestoryref2_TermText_r, if_neg (by rw [hm]; simp), if_pos (by simpa using h1), s2]
            rfl
        · obtain ⟨hk, hsub⟩ := may_kinds hm h1
          obtain ⟨g1, g2, g3, g4, g5, g6⟩ := kinds_eq hk
          have hx30 : ∀ x, x ∈ xs → cnt x ≤ 30 := fun x hx => by have := sum_mem (f := cnt) hx; omega
          have ht : ∀ x, x ∈ xs → ∃ s, (∃ K, ∀ k, K ≤ k → calc_Text1_r k x = some s) ∧ (∃ K, ∀ k, K ≤ k → clerestoryref2_TermText_r k x = some s) ∧ s.length + 3 ≤ 20 * bt x := fun x hx => (hcnt x hx).2.2 (hx30 x hx)
          obtain ⟨txt, htxt⟩ : ∃ txt : TSTerm → List UInt8, ∀ x, x ∈ xs → (∃ K, ∀ k, K ≤ k → calc_Text1_r k x = some (txt x)) ∧ (∃ K, ∀ k, K ≤ k → clerestoryref2_TermText_r k x = some (txt x)) ∧ (txt x).length + 3 ≤ 20 * bt x := by
            classical
            exact ⟨fun x => if h : x ∈ xs then (ht x h).choose else [], fun x h => by simp only [dif_pos h]; exact (ht x h).choose_spec⟩
          obtain ⟨K1, hK1⟩ := uni (Q := fun k x => calc_Text1_r k x = some (txt x)) xs fun x hx => (htxt x hx).1
          obtain ⟨K2, hK2⟩ := uni (Q := fun k x => clerestoryref2_TermText_r k x = some (txt x)) xs fun x hx => (htxt x hx).2.1
          have hw : wL 3 (xs.map txt) ≤ 20 * (xs.map bt).sum := by
            unfold wL
            rw [List.map_map, ← sum_mul]
            exact sum_le_of _ fun x hx => (htxt x hx).2.2
          have hws : wL (calc_sign1 t.Kind).length (xs.map txt) ≤ wL 3 (xs.map txt) := by
            unfold wL
            rw [List.map_map, List.map_map]
            exact sum_le_of (fun x => (txt x).length + 3) fun x _ => by simp only [Function.comp]; omega
          have hj := joinL_len (calc_sign1 t.Kind) (xs.map txt)
          refine ⟨hdT t.Kind ++ joinL (calc_sign1 t.Kind) (xs.map txt) ++ [41], ⟨K1 + 1, fun k hk => ?_⟩, ⟨K2 + 1, fun k hk => ?_⟩, ?_⟩
          · obtain ⟨m, rfl⟩ : ∃ m, k = m + 1 := ⟨k - 1, by omega⟩
            rw [calc_Text1_r, if_neg hsh, if_neg (by simpa using h1), text_step t xs e _ txt (fun x hx => hK1 x hx m (by omega)) hn, g6, Option.bind_some, join_eq _ _ g4 (by omega) (by omega), Option.bind_some, catq (by omega), Option.bind_some,
              catq (by simp only [List.length_append, List.length_cons, List.length_nil]; omega), Option.bind_some]
          · obtain ⟨m, rfl⟩ : ∃ m, k = m + 1 := ⟨k - 1, by omega⟩
            rw [clerestoryref2_TermText_r, if_neg (by rw [hm]; simp), if_neg (by simpa using h1), g1, Option.bind_some, g2, Option.bind_some, ref_step t xs e _ txt (fun x hx => hK2 x hx m (by omega)) hn _ _ (by omega) g5 (by omega),
              catq (by simp only [List.length_append, List.length_cons, List.length_nil]; omega), Option.bind_some]
          · simp only [List.length_append, List.length_cons, List.length_nil]
            omega
    · refine ⟨31, ⟨1, fun k hk => ?_⟩, by have := bt_pos t; omega, fun h => absurd h (by omega)⟩
      obtain ⟨m, rfl⟩ : ∃ m, k = m + 1 := ⟨k - 1, by omega⟩
      rw [clerestoryref2_TermCount_r, if_pos (by simpa using hm)]
      rfl
theorem pureCalcTells : PureCalcTells := by
  intro a0 hok hb
  have hb' : bt a0 ≤ 1048576 := by
    simp only [bulkVs, bulkV] at hb
    unfold bt
    omega
  obtain ⟨c, ⟨K, hK⟩, _, htx⟩ := term_main 1048576 a0 hb' (Nat.le_refl _) hok
  have hc : clerestoryref2_TermCount a0 = some (c : Int) := lim_of K hK
  unfold clerestorylaw2_CalcTells
  rw [twice_eq, Option.bind_some, hc, Option.bind_some]
  by_cases h : c ≤ 30
  · obtain ⟨s, ⟨K1, h1⟩, ⟨K2, h2⟩, _⟩ := htx h
    have e1 : calc_Text1 a0 = some s := lim_of K1 h1
    have e2 : clerestoryref2_TermText a0 = some s := lim_of K2 h2
    rw [if_neg (by simp only [decide_eq_true_eq]; omega), if_pos rfl, e1, Option.bind_some, e2, Option.bind_some]
    simp [clerestorylaw2_CalcTells_j1]
  · rw [if_pos (by simp only [decide_eq_true_eq]; omega)]
end Go.Proofs.YtcnfmehidmjejaaDoorBv
