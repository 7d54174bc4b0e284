/- The law CalcValues, over plain values, in parts. No program is in sight. -/
import Derived.Test.YtcnfmehidmjejaaGreatDoorShCalcValues
import Derived.Test.YtcnfmehidmjejaaGreatDoorBv23
/- Loops over a list, said once: an invariant, rounds that go on, rounds that end it all. No program is in sight. -/
namespace Go.Proofs.YtcnfmehidmjejaaGreatDoorBv
open Go
set_option linter.unusedSimpArgs false
set_option linter.unusedVariables false
theorem rounds {σ β : Type} (F : Nat → σ → Int → Option β) (K : σ → Option β) (n : Nat) (I : Nat → σ → Prop) (E : Option β → Prop)
  (stop : ∀ m s, I n s → F (m + 1) s (n : Int) = K s)
  (step : ∀ s (i : Nat), i < n → I i s → (∃ s', I (i + 1) s' ∧ ∀ m, F (m + 1) s (i : Int) = F m s' ((i + 1 : Nat) : Int)) ∨ ∃ v, E v ∧ ∀ m, F (m + 1) s (i : Int) = v) :
  ∀ (c i : Nat) s, i + c = n → I i s → (∃ s', I n s' ∧ ∀ m, F (m + c + 1) s (i : Int) = K s') ∨ ∃ v, E v ∧ ∀ m, F (m + c + 1) s (i : Int) = v
 | 0, i, s, h, hi => by
  obtain rfl : i = n := by omega
  exact .inl ⟨s, hi, fun m => stop m s hi⟩
 | c + 1, i, s, h, hi => by
  rcases step s i (by omega) hi with ⟨s', h1, h2⟩ | ⟨v, h1, h2⟩
  ·rcases rounds F K n I E stop step c (i + 1) s' (by omega) h1 with ⟨t, a, b⟩ | ⟨v, a, b⟩
   ·exact .inl ⟨t, a, fun m => by rw [show m + (c + 1) + 1 = (m + c + 1) + 1 by omega, h2]; exact b m⟩
   ·exact .inr ⟨v, a, fun m => by rw [show m + (c + 1) + 1 = (m + c + 1) + 1 by omega, h2]; exact b m⟩
  ·exact .inr ⟨v, h1, fun m => h2 (m + (c + 1))⟩
theorem rounds_lim {σ β : Type} (F : Nat → σ → Int → Option β) (K : σ → Option β) (n : Nat) (I : Nat → σ → Prop) (E : Option β → Prop) (s : σ) (h0 : I 0 s)
  (stop : ∀ m s, I n s → F (m + 1) s (n : Int) = K s)
  (step : ∀ s (i : Nat), i < n → I i s → (∃ s', I (i + 1) s' ∧ ∀ m, F (m + 1) s (i : Int) = F m s' ((i + 1 : Nat) : Int)) ∨ ∃ v, E v ∧ ∀ m, F (m + 1) s (i : Int) = v) :
  (∃ s', I n s' ∧ lim (fun k => F k s 0) = K s') ∨ ∃ v, E v ∧ lim (fun k => F k s 0) = v := by
 rcases rounds F K n I E stop step n 0 s (by omega) h0 with ⟨t, a, b⟩ | ⟨v, a, b⟩
 ·exact .inl ⟨t, a, lim_add (n + 1) fun m => b m⟩
 ·exact .inr ⟨v, a, lim_add (n + 1) fun m => b m⟩
/-- rounds that all go on -/
theorem rounds_all {σ β : Type} (F : Nat → σ → Int → Option β) (K : σ → Option β) (n : Nat) (I : Nat → σ → Prop) (s : σ) (h0 : I 0 s)
  (stop : ∀ m s, I n s → F (m + 1) s (n : Int) = K s)
  (step : ∀ s (i : Nat), i < n → I i s → ∃ s', I (i + 1) s' ∧ ∀ m, F (m + 1) s (i : Int) = F m s' ((i + 1 : Nat) : Int)) :
  ∃ s', I n s' ∧ lim (fun k => F k s 0) = K s' := by
 rcases rounds_lim F K n I (fun _ => False) s h0 stop (fun s i a b => .inl (step s i a b)) with h | ⟨_, h, _⟩
 ·exact h
 ·exact h.elim
theorem wi_next {i n : Nat} (h : i < n) (hn : n ≤ 9223372036854775807) : wi ((i : Int) + 1) = ((i + 1 : Nat) : Int) := by
 rw [wi_id (by omega) (by omega)]; omega
theorem lt_pos {i n : Nat} (h : i < n) : decide ((i : Int) < (n : Int)) = true := by simp only [decide_eq_true_eq]; omega
theorem lt_neg (n : Nat) : ¬ decide ((n : Int) < (n : Int)) = true := by simp
theorem take_succ_get {α : Type} {l : List α} {i : Nat} (h : i < l.length) : l.take (i + 1) = l.take i ++ [l[i]] := by
 rw [List.take_add_one, List.getElem?_eq_getElem h]; rfl
theorem take_all {α : Type} (l : List α) : l.take l.length = l := List.take_length
end Go.Proofs.YtcnfmehidmjejaaGreatDoorBv
/- The law of the value of a term, over plain values. No program is in sight. -/
namespace Go.Proofs.YtcnfmehidmjejaaGreatDoorBv
open Go
set_option linter.unusedSimpArgs false
set_option linter.unusedVariables false
theorem twice_eq : Z4a = some true := by kernel_rfl
def bt (t : TSTerm) : Nat := bulkL (e_TSTerm t)
theorem kids_of : ∀ (S : List Raw), (∀ y, y ∈ S → ∃ D, Shape Tryz.prog D 26 y.c) → ∃ xs : List TSTerm, S.map (·.c) = xs.map e_TSTerm ∧ ∀ x, x ∈ xs → ok26 x
 | [], _ => ⟨[], rfl, fun x h => by cases h⟩
 | y :: r, h => by
  obtain ⟨xs, e1, e2⟩ := kids_of r fun z hz => h z (List.mem_cons_of_mem _ hz)
  obtain ⟨D, hD⟩ := h y (List.mem_cons_self ..)
  obtain ⟨x, f1, f2⟩ := raw26 hD
  refine ⟨x :: xs, by rw [List.map_cons, List.map_cons, e1, f1], fun z hz => ?_⟩
  rcases List.mem_cons.1 hz with rfl | hz
  ·exact f2
  ·exact e2 z hz
theorem bulk_eq (t : TSTerm) (xs : List TSTerm) (e : t.Subs.map (·.c) = xs.map e_TSTerm) : bt t = 4 + t.Dim.Unit.length + (xs.map bt).sum := by
 have e' : t.Subs.map eRaw = xs.map e_TSTerm := e
 have hb : bulkE (xs.map e_TSTerm) = (xs.map bt).sum := bulkE_map e_TSTerm xs
 show bulkL [cI t.Kind, cI t.Dim.Num, .str t.Dim.Unit, .ro false 4 (t.Subs.map eRaw)] = _
 simp only [bulkL, cI, bulkC, e', hb]
 omega
theorem kid_at {t : TSTerm} {xs : List TSTerm} (e : t.Subs.map (·.c) = xs.map e_TSTerm) {i : Nat} (hi : i < xs.length) : ∃ r, at? t.Subs (i : Int) = some r ∧ Zp r.c = some xs[i] := by
 have hl : t.Subs.length = xs.length := by have := congrArg List.length e; simpa using this
 refine ⟨t.Subs[i], at_some (by omega), ?_⟩
 have h1 : (t.Subs.map (·.c))[i]? = (xs.map e_TSTerm)[i]? := by rw [e]
 rw [List.getElem?_map, List.getElem?_map, List.getElem?_eq_getElem hi, List.getElem?_eq_getElem (show i < t.Subs.length by omega)] at h1
 simp only [Option.map_some, Option.some.injEq] at h1
 rw [h1]
 exact Z8p _
theorem sum_le_of {xs : List TSTerm} {f : TSTerm → Nat} (g : TSTerm → Nat) (h : ∀ x, x ∈ xs → f x ≤ g x) : (xs.map f).sum ≤ (xs.map g).sum := by
 induction xs with
 | nil => simp
 | cons a r ih => simp only [List.map_cons, List.sum_cons]; have := h a (List.mem_cons_self ..); have := ih fun x hx => h x (List.mem_cons_of_mem _ hx); omega
theorem sum_take_le (f : TSTerm → Nat) (xs : List TSTerm) (i : Nat) : ((xs.take i).map f).sum ≤ (xs.map f).sum := by
 induction xs generalizing i with
 | nil => simp
 | cons a r ih => cases i with
  | zero => simp
  | succ i => simp only [List.take_succ_cons, List.map_cons, List.sum_cons]; have := ih i; omega
theorem sum_mem {f : TSTerm → Nat} {xs : List TSTerm} {x : TSTerm} (h : x ∈ xs) : f x ≤ (xs.map f).sum := by
 induction xs with
 | nil => cases h
 | cons a r ih =>
  simp only [List.map_cons, List.sum_cons]
  rcases List.mem_cons.1 h with rfl | h
  ·omega
  ·have := ih h; omega
theorem sum_mul (f : TSTerm → Nat) (c : Nat) (xs : List TSTerm) : (xs.map fun x => c * f x).sum = c * (xs.map f).sum := by
 induction xs with
 | nil => simp
 | cons a r ih => simp only [List.map_cons, List.sum_cons, ih, Nat.mul_add]
theorem len_le_sum {f : TSTerm → Nat} (xs : List TSTerm) (h : ∀ x, x ∈ xs → 1 ≤ f x) : xs.length ≤ (xs.map f).sum := by
 induction xs with
 | nil => simp
 | cons a r ih => simp only [List.map_cons, List.sum_cons, List.length_cons]; have := h a (List.mem_cons_self ..); have := ih fun x hx => h x (List.mem_cons_of_mem _ hx); omega
theorem bt_pos (t : TSTerm) : 4 ≤ bt t := by
 unfold bt e_TSTerm; simp only [bulkL, cI, bulkC]; omega
theorem uni {Q : Nat → TSTerm → Prop} : ∀ (xs : List TSTerm), (∀ x, x ∈ xs → ∃ K, ∀ k, K ≤ k → Q k x) → ∃ K, ∀ x, x ∈ xs → ∀ k, K ≤ k → Q k x
 | [], _ => ⟨0, fun x h => by cases h⟩
 | a :: r, h => by
  obtain ⟨K1, h1⟩ := uni r fun x hx => h x (List.mem_cons_of_mem _ hx)
  obtain ⟨K2, h2⟩ := h a (List.mem_cons_self ..)
  refine ⟨K1 + K2, fun x hx k hk => ?_⟩
  rcases List.mem_cons.1 hx with rfl | hx
  ·exact h2 k (by omega)
  ·exact h1 x hx k (by omega)
theorem shaped_eq (t : TSTerm) : Z17 t = Zb t := by
 unfold Z17 Z1i Z2j Zb
 by_cases h1 : t.Kind = 1
 ·simp [h1]
 by_cases h2 : t.Kind = 2
 ·simp [h2]
 by_cases h3 : t.Kind = 3
 ·simp [h3]
 by_cases h4 : t.Kind = 4
 ·simp [h4]
 by_cases h5 : t.Kind = 5
 ·simp [h5]
 by_cases h6 : t.Kind = 6
 ·simp [h6]; omega
 by_cases h7 : t.Kind = 7
 ·simp [h7]; omega
 have hr : ¬ (2 ≤ t.Kind ∧ t.Kind ≤ 5) := by omega
 have hr' : (decide (2 ≤ t.Kind) && decide (t.Kind ≤ 5)) = false := by
  simp only [Bool.and_eq_false_iff, decide_eq_false_iff_not]; omega
 by_cases h8 : t.Kind = 8
 ·simp [h8]
 ·simp only [h1, h2, h3, h4, h5, h6, h7, h8, hr', decide_false, Bool.false_eq_true, if_false, Bool.or_self, Bool.false_and]
theorem may_kinds {t : TSTerm} (h : Zb t = true) (h1 : t.Kind ≠ 1) : (t.Kind = 2 ∨ t.Kind = 3 ∨ t.Kind = 4 ∨ t.Kind = 5 ∨ t.Kind = 6 ∨ t.Kind = 7 ∨ t.Kind = 8) ∧ 1 ≤ t.Subs.length := by
 unfold Zb at h
 rw [if_neg (by simpa using h1)] at h
 split at h
 ·rename_i h2
  simp only [Bool.and_eq_true, decide_eq_true_eq] at h2 h
  omega
 ·split at h
  ·rename_i h2
   simp only [Bool.or_eq_true, decide_eq_true_eq] at h2 h
   omega
  ·simp only [Bool.and_eq_true, decide_eq_true_eq] at h
   omega
theorem may_one {t : TSTerm} (h : Zb t = true) (h1 : t.Kind = 1) : t.Subs.length = 0 := by
 unfold Zb at h
 rw [if_pos (by simpa using h1)] at h
 simp only [decide_eq_true_eq] at h
 omega
def cgo : List Nat → Nat → Nat
 | [], n => n
 | c :: r, n => if n ≤ 30 then cgo r (n + c) else n
theorem cgo_le : ∀ (l : List Nat) (n : Nat), cgo l n ≤ n + l.sum
 | [], n => by simp [cgo]
 | c :: r, n => by
  unfold cgo
  split
  ·have := cgo_le r (n + c); simp only [List.sum_cons]; omega
  ·simp only [List.sum_cons]; omega
theorem cgo_small : ∀ (l : List Nat) (n : Nat), cgo l n ≤ 30 → cgo l n = n + l.sum
 | [], n, _ => by simp [cgo]
 | c :: r, n, h => by
  unfold cgo at h ⊢
  split at h
  ·rename_i h30
   rw [if_pos h30, cgo_small r (n + c) h]; simp only [List.sum_cons]; omega
  ·omega
/-- the count of a term, where its parts are counted -/
theorem count_step (t : TSTerm) (xs : List TSTerm) (e : t.Subs.map (·.c) = xs.map e_TSTerm) (recf : TSTerm → Option Int) (cnt : TSTerm → Nat) (hrec : ∀ x, x ∈ xs → recf x = some (cnt x : Int)) (hb : (xs.map cnt).sum ≤ 100000000) (hn : xs.length ≤ 100000000) :
  lim (fun kk => Z7 t recf (fun n => some n) kk 1 0) = some (cgo (xs.map cnt) 1 : Int) := by
 have hl : t.Subs.length = xs.length := by have := congrArg List.length e; simpa using this
 refine Or.elim (rounds_lim (σ := Int) (fun m s i => Z7 t recf (fun n => some n) m s i) (fun s => some s) xs.length
  (fun i s => ∃ n : Nat, s = (n : Int) ∧ n = 1 + ((xs.take i).map cnt).sum ∧ cgo (xs.map cnt) 1 = cgo ((xs.drop i).map cnt) n) (fun v => v = some (cgo (xs.map cnt) 1 : Int)) 1 ⟨1, rfl, by simp, by simp⟩ ?_ ?_) ?_ ?_
 ·intro m s hs
  show Z7 t recf (fun n => some n) (m + 1) s (xs.length : Int) = _
  rw [Z7, if_neg (by rw [hl]; simp)]
 ·rintro s i hi ⟨n, rfl, hn1, hgo⟩
  have hsum := sum_take_le cnt xs i
  have hd : xs.drop i = xs[i] :: xs.drop (i + 1) := List.drop_eq_getElem_cons hi
  rw [hd, List.map_cons] at hgo
  by_cases h30 : n ≤ 30
  ·left
   obtain ⟨r, r1, r2⟩ := kid_at e hi
   have hx : recf xs[i] = some (cnt xs[i] : Int) := hrec _ (List.getElem_mem hi)
   have hc := sum_mem (f := cnt) (List.getElem_mem hi)
   refine ⟨((n + cnt xs[i] : Nat) : Int), ⟨n + cnt xs[i], rfl, ?_, ?_⟩, fun m => ?_⟩
   ·rw [take_succ_get hi, List.map_append, List.sum_append, hn1]; simp; omega
   ·rw [hgo, cgo, if_pos h30]
   ·show Z7 t recf (fun n => some n) (m + 1) (n : Int) (i : Int) = Z7 t recf (fun n => some n) m _ _
    rw [Z7, if_pos (by rw [hl, lt_pos hi]; simp only [Bool.true_and, decide_eq_true_eq]; omega), r1, Option.bind_some, r2, Option.bind_some, hx, Option.bind_some,
     wi_next hi (by omega), wi_id (by omega) (by omega)]
    congr 1
  ·right
   refine ⟨some (n : Int), ?_, fun m => ?_⟩
   ·rw [hgo, cgo, if_neg h30]
   ·show Z7 t recf (fun n => some n) (m + 1) (n : Int) (i : Int) = _
    rw [Z7, if_neg (by simp only [Bool.and_eq_true, decide_eq_true_eq, not_and]; omega)]
 ·rintro ⟨s, ⟨n, rfl, hn1, hgo⟩, h⟩
  rw [List.drop_length] at hgo
  rw [h, hgo]
  rfl
 ·rintro ⟨v, rfl, h⟩
  exact h
theorem down_eq (n b : Int) (hb : b = 1000 ∨ b = 100000) (h1 : -1000000000000000000 ≤ n) (h2 : n ≤ 1000000000000000000) : ∃ q, Z1s n b = some q ∧ Z6 n b = some q := by
 have hb0 : b ≠ 0 := by omega
 have e := Int.mul_tdiv_add_tmod n b
 have l1 := Int.tmod_lt_of_pos n (show 0 < b by omega)
 have l2 := Int.lt_tmod_of_pos n (show 0 < b by omega)
 unfold Z1s Z6
 rw [quoq hb0, remq hb0, Option.bind_some, Option.bind_some, Option.bind_some]
 generalize n.tdiv b = q at *
 generalize n.tmod b = r at *
 have hqb : -1000000000000000000 ≤ q ∧ q ≤ 1000000000000000000 ∧ (q * b = n - r) := by rcases hb with rfl | rfl <;> omega
 have e1 : IntKind.i64.wrap q = q := wi_id (by omega) (by omega)
 rw [e1, wi_id (n := q - 1) (by omega) (by omega), hqb.2.2, wi_id (n := n - r) (by omega) (by omega)]
 unfold Z2m Z1j
 refine ⟨if r < 0 then q - 1 else q, ?_, ?_⟩
 ·by_cases h : r < 0
  ·rw [if_pos (by simpa using h), if_pos h]
  ·rw [if_neg (by simpa using h), if_neg h]
 ·by_cases h : r < 0
  ·rw [if_pos (by simp only [decide_eq_true_eq]; omega), if_pos h]
  ·rw [if_neg (by simp only [decide_eq_true_eq]; omega), if_neg h]
theorem cut_same (n : Int) : Z1t n = Z0 n := by
 unfold Z1t Z0 mn mx
 repeat' split
 all_goals omega
theorem prod_le (a b : Int) (h1 : -1000000000 ≤ a) (h2 : a ≤ 1000000000) (h3 : 0 ≤ b) (h4 : b ≤ 16777216) : -16777216000000000 ≤ a * b ∧ a * b ≤ 16777216000000000 := by
 have e1 := Int.mul_le_mul_of_nonneg_right h2 h3
 have e2 := Int.mul_le_mul_of_nonneg_right h1 h3
 omega
theorem px_j {d : TSDim} {t b n : Int} (hb : b = 1000 ∨ b = 100000) (hn : d.Num * t = n) (h1 : -16777216000000000 ≤ n ∧ n ≤ 16777216000000000) :
  ∃ q, Zk d t b = some (q, 0) ∧ (Z6 n b).bind (fun r => some ((Z0 r), (0 : Int))) = some (q, 0) := by
 obtain ⟨q, q1, q2⟩ := down_eq n b hb (by omega) (by omega)
 refine ⟨Z0 q, ?_, by rw [q2]; rfl⟩
 unfold Zk
 rw [hn, wi_id (by omega) (by omega), q1, Option.bind_some, cut_same]
theorem fault_eq (d : TSDim) (k : TSScale) : (((((!(Z1 d.Num (-1000000000) 1000000000)) || (!(Z1 k.Em 0 16777216))) || (!(Z1 k.Rem 0 16777216))) || (!(Z1 k.Width 1 4000))) || (!(Z1 k.Height 1 4000))) = Z19 d k := by
 unfold Z19 Z1
 rw [Bool.eq_iff_iff]
 simp only [Bool.or_eq_true, Bool.not_eq_true', Bool.and_eq_false_iff, decide_eq_true_eq, decide_eq_false_iff_not]
 omega
theorem px_eq (d : TSDim) (k : TSScale) : ∃ r, Z2n d k = some r ∧ Z1k d k = some r := by
 unfold Z2n Z1k
 rw [fault_eq]
 by_cases hf : Z19 d k = true
 ·rw [if_pos hf, if_pos hf]; exact ⟨_, rfl, rfl⟩
 ·rw [if_neg hf, if_neg hf]
  have hin : (-1000000000 ≤ d.Num ∧ d.Num ≤ 1000000000) ∧ (0 ≤ k.Em ∧ k.Em ≤ 16777216) ∧ (0 ≤ k.Rem ∧ k.Rem ≤ 16777216) ∧ (1 ≤ k.Width ∧ k.Width ≤ 4000) ∧ (1 ≤ k.Height ∧ k.Height ≤ 4000) := by
   have h0 : Z19 d k = false := by simpa using hf
   rw [← fault_eq] at h0
   simp only [Z1, Bool.or_eq_false_iff, Bool.not_eq_false', Bool.and_eq_true, decide_eq_true_eq] at h0
   omega
  obtain ⟨hN, hE, hR, hW, hH⟩ := hin
  have p64 := prod_le d.Num 64 hN.1 hN.2 (by omega) (by omega)
  have pE := prod_le d.Num k.Em hN.1 hN.2 hE.1 hE.2
  have pR := prod_le d.Num k.Rem hN.1 hN.2 hR.1 hR.2
  have pW := prod_le d.Num (64 * k.Width) hN.1 hN.2 (by omega) (by omega)
  have pH := prod_le d.Num (64 * k.Height) hN.1 hN.2 (by omega) (by omega)
  by_cases c1 : d.Unit = [112, 120]
  ·rw [if_pos (show (decide (d.Unit = [112, 120])) = true by simpa using c1), if_pos (show (decide (d.Unit = [112, 120])) = true by simpa using c1), wi_id (by omega) (by omega)]
   obtain ⟨q, q1, q2⟩ := px_j (d := d) (t := 64) (b := 1000) (.inl rfl) rfl p64
   exact ⟨_, q1, q2⟩
  rw [if_neg (show ¬ (decide (d.Unit = [112, 120])) = true by simpa using c1), if_neg (show ¬ (decide (d.Unit = [112, 120])) = true by simpa using c1)]
  by_cases c2 : d.Unit = [101, 109]
  ·rw [if_pos (show (decide (d.Unit = [101, 109])) = true by simpa using c2), if_pos (show (decide (d.Unit = [101, 109])) = true by simpa using c2), wi_id (by omega) (by omega)]
   obtain ⟨q, q1, q2⟩ := px_j (d := d) (t := k.Em) (b := 1000) (.inl rfl) rfl pE
   exact ⟨_, q1, q2⟩
  rw [if_neg (show ¬ (decide (d.Unit = [101, 109])) = true by simpa using c2), if_neg (show ¬ (decide (d.Unit = [101, 109])) = true by simpa using c2)]
  by_cases c3 : d.Unit = [114, 101, 109]
  ·rw [if_pos (show (decide (d.Unit = [114, 101, 109])) = true by simpa using c3), if_pos (show (decide (d.Unit = [114, 101, 109])) = true by simpa using c3), wi_id (by omega) (by omega)]
   obtain ⟨q, q1, q2⟩ := px_j (d := d) (t := k.Rem) (b := 1000) (.inl rfl) rfl pR
   exact ⟨_, q1, q2⟩
  rw [if_neg (show ¬ (decide (d.Unit = [114, 101, 109])) = true by simpa using c3), if_neg (show ¬ (decide (d.Unit = [114, 101, 109])) = true by simpa using c3)]
  by_cases c4 : d.Unit = [118, 119]
  ·rw [if_pos (show (decide (d.Unit = [118, 119])) = true by simpa using c4), if_pos (show (decide (d.Unit = [118, 119])) = true by simpa using c4), wi_id (n := d.Num * 64) (by omega) (by omega), wi_id (n := 64 * k.Width) (by omega) (by omega), Int.mul_assoc, wi_id (by omega) (by omega)]
   obtain ⟨q, q1, q2⟩ := px_j (d := d) (t := 64 * k.Width) (b := 100000) (.inr rfl) rfl pW
   exact ⟨_, q1, q2⟩
  rw [if_neg (show ¬ (decide (d.Unit = [118, 119])) = true by simpa using c4), if_neg (show ¬ (decide (d.Unit = [118, 119])) = true by simpa using c4)]
  by_cases c5 : d.Unit = [118, 104]
  ·rw [if_pos (show (decide (d.Unit = [118, 104])) = true by simpa using c5), if_pos (show (decide (d.Unit = [118, 104])) = true by simpa using c5), wi_id (n := d.Num * 64) (by omega) (by omega), wi_id (n := 64 * k.Height) (by omega) (by omega), Int.mul_assoc, wi_id (by omega) (by omega)]
   obtain ⟨q, q1, q2⟩ := px_j (d := d) (t := 64 * k.Height) (b := 100000) (.inr rfl) rfl pH
   exact ⟨_, q1, q2⟩
  rw [if_neg (show ¬ (decide (d.Unit = [118, 104])) = true by simpa using c5), if_neg (show ¬ (decide (d.Unit = [118, 104])) = true by simpa using c5)]
  by_cases c6 : d.Unit = [] ∧ d.Num = 0
  ·rw [if_neg (show ¬ ((!decide (d.Unit = [])) || (!decide (d.Num = 0))) = true by simp [c6.1, c6.2]), if_pos (show (decide (d.Unit = []) && decide (d.Num = 0)) = true by simp [c6.1, c6.2])]
   refine ⟨(0, 0), ?_, rfl⟩
   unfold Zk
   rw [Int.mul_zero]
   obtain ⟨q, q1, q2⟩ := down_eq 0 1000 (.inl rfl) (by omega) (by omega)
   have e0 : wi 0 = 0 := rfl
   rw [e0, q1, Option.bind_some]
   have : Z1s 0 1000 = some 0 := by decide
   rw [this] at q1
   obtain rfl := Option.some.inj q1
   rfl
  ·have c7 : ¬ (decide (d.Unit = []) && decide (d.Num = 0)) = true := by
    rw [Bool.and_eq_true, decide_eq_true_eq, decide_eq_true_eq]; exact c6
   have c8 : ((!decide (d.Unit = [])) || (!decide (d.Num = 0))) = true := by
    rw [← Bool.not_and, Bool.not_eq_true', ← Bool.not_eq_true]; exact c7
   rw [if_pos c8, if_neg c7]
   exact ⟨_, rfl, rfl⟩

def inR (v : TVal) : Prop := -16777216 ≤ v.N ∧ v.N ≤ 16777216
theorem ccut_same (n : Int) : Z2 n = Z0 n := by
 unfold Z2 Z0 mn mx
 repeat' split
 all_goals omega
theorem cut_in (n : Int) : -16777216 ≤ Z0 n ∧ Z0 n ≤ 16777216 := by
 unfold Z0 mn mx
 repeat' split
 all_goals omega
theorem cut_id {n : Int} (h1 : -16777216 ≤ n) (h2 : n ≤ 16777216) : Z0 n = n := by
 unfold Z0 mn mx
 repeat' split
 all_goals omega
theorem tmod_sign (n b : Int) : (0 ≤ n → 0 ≤ n.tmod b) ∧ (n ≤ 0 → n.tmod b ≤ 0) := by
 refine ⟨fun h => Int.tmod_nonneg b h, fun h => ?_⟩
 have := Int.tmod_nonneg b (show 0 ≤ -n by omega)
 rw [Int.neg_tmod] at this
 omega
theorem down_pos (n b : Int) (hb : 0 < b) (h1 : -9223372036854775808 ≤ n) (h2 : n ≤ 9223372036854775807) : ∃ q, Zt n b = some q ∧ Z6 n b = some q := by
 have hb0 : b ≠ 0 := by omega
 have e := Int.mul_tdiv_add_tmod n b
 have sg := tmod_sign n b
 have hq : (0 ≤ n → 0 ≤ n.tdiv b) ∧ (n ≤ 0 → n.tdiv b ≤ 0) := by
  refine ⟨fun h => Int.tdiv_nonneg h (by omega), fun h => ?_⟩
  have := Int.tdiv_nonneg (show 0 ≤ -n by omega) (show 0 ≤ b by omega)
  rw [Int.neg_tdiv] at this
  omega
 have hp : (0 ≤ n.tdiv b → n.tdiv b ≤ b * n.tdiv b) ∧ (n.tdiv b ≤ 0 → b * n.tdiv b ≤ n.tdiv b) := by
  refine ⟨fun h => ?_, fun h => ?_⟩
  ·have := Int.mul_le_mul_of_nonneg_right (show 1 ≤ b by omega) h
   rw [Int.one_mul] at this; exact this
  ·have := Int.mul_le_mul_of_nonneg_right (show 1 ≤ b by omega) (show 0 ≤ -(n.tdiv b) by omega)
   rw [Int.one_mul, Int.mul_neg] at this; omega
 have hc : n.tdiv b * b = b * n.tdiv b := Int.mul_comm _ _
 unfold Zt Z6
 rw [quoq hb0, remq hb0, Option.bind_some, Option.bind_some, Option.bind_some]
 have e1 : IntKind.i64.wrap (n.tdiv b) = n.tdiv b := wi_id (by omega) (by omega)
 rw [e1, hc]
 generalize n.tdiv b = q at *
 generalize n.tmod b = r at *
 generalize b * q = p at *
 have e2 : wi p = p := wi_id (by omega) (by omega)
 rw [e2]
 unfold Z1r Z1j
 have hbn : decide (b < 0) = false := by simp only [decide_eq_false_iff_not]; omega
 refine ⟨if r < 0 then wi (q - 1) else q, ?_, ?_⟩
 ·by_cases h : r < 0
  ·have hn : decide (n < 0) = true := by simp only [decide_eq_true_eq]; omega
   have hr : decide (r = 0) = false := by simp only [decide_eq_false_iff_not]; omega
   rw [hn, hbn, hr, if_pos (by rfl), if_pos h]
  ·rw [if_neg, if_neg h]
   rw [hbn]
   by_cases h0 : r = 0
   ·simp [h0]
   ·have hn : decide (n < 0) = false := by simp only [decide_eq_false_iff_not]; omega
    simp [hn]
 ·by_cases h : r < 0
  ·rw [if_pos (by simp only [decide_eq_true_eq]; omega), if_pos h]
  ·rw [if_neg (by simp only [decide_eq_true_eq]; omega), if_neg h]
theorem floor_eq (n b : Int) (hb : b ≠ 0) (h1 : -100000000000 ≤ n) (h2 : n ≤ 100000000000) (h3 : -1000000000 ≤ b) (h4 : b ≤ 1000000000) : ∃ q, Zt n b = some q ∧ Z1y n b = some q := by
 by_cases hp : 0 < b
 ·obtain ⟨q, q1, q2⟩ := down_pos n b hp (by omega) (by omega)
  refine ⟨q, q1, ?_⟩
  unfold Z1y
  rw [if_neg (by simp only [decide_eq_true_eq]; omega), q2]
  rfl
 ·have hb' : b < 0 := by omega
  have e := Int.mul_tdiv_add_tmod n b
  have sg := tmod_sign n b
  have l1 := Int.tmod_lt_of_pos n (show 0 < -b by omega)
  have l2 := Int.lt_tmod_of_pos n (show 0 < -b by omega)
  rw [Int.tmod_neg] at l1 l2
  have hq := Int.natAbs_tdiv_le_natAbs n b
  have e3 : (0 - n).tdiv (0 - b) = n.tdiv b := by rw [Int.zero_sub, Int.zero_sub, Int.neg_tdiv_neg]
  have hc : n.tdiv b * (0 - b) = - (b * n.tdiv b) := by rw [Int.zero_sub, Int.mul_neg, Int.mul_comm]
  unfold Zt Z1y Z6
  rw [if_pos (by simpa using hb'), wi_id (n := 0 - n) (by omega) (by omega), wi_id (n := 0 - b) (by omega) (by omega), quoq hb, remq hb, quoq (by omega), e3, Option.bind_some, Option.bind_some, Option.bind_some]
  have e1 : IntKind.i64.wrap (n.tdiv b) = n.tdiv b := wi_id (by omega) (by omega)
  rw [e1, hc]
  generalize n.tdiv b = q at *
  generalize n.tmod b = r at *
  generalize b * q = p at *
  have e2 : wi (-p) = -p := wi_id (by omega) (by omega)
  rw [e2]
  unfold Z1r Z1j
  have hbn : decide (b < 0) = true := by simpa using hb'
  refine ⟨if 0 < r then wi (q - 1) else q, ?_, ?_⟩
  ·by_cases h : 0 < r
   ·have hn : decide (n < 0) = false := by simp only [decide_eq_false_iff_not]; omega
    have hr : decide (r = 0) = false := by simp only [decide_eq_false_iff_not]; omega
    rw [hn, hbn, hr, if_pos (by rfl), if_pos h]
   ·rw [if_neg, if_neg h]
    rw [hbn]
    by_cases h0 : r = 0
    ·simp [h0]
    ·have hn : decide (n < 0) = true := by simp only [decide_eq_true_eq]; omega
     simp [hn]
  ·by_cases h : 0 < r
   ·rw [if_pos (by simp only [decide_eq_true_eq]; omega), if_pos h]; rfl
   ·rw [if_neg (by simp only [decide_eq_true_eq]; omega), if_neg h]; rfl
theorem cgo_ge : ∀ (l : List Nat) (n : Nat), n ≤ cgo l n
 | [], n => by simp [cgo]
 | c :: r, n => by
  unfold cgo
  split
  ·have := cgo_ge r (n + c); omega
  ·omega
def pgo : List (Int × Nat) → Int → Int
 | [], n => n
 | x :: r, n => if x.2 ≤ 30 ∧ wi (n + x.1) ≤ 30 then pgo r (wi (n + x.1)) else wi (n + x.1)
/-- the program's count, where the parts are counted -/
theorem pcount_step (t : TSTerm) (xs : List TSTerm) (e : t.Subs.map (·.c) = xs.map e_TSTerm) (recf : TSTerm → Option (Int × Bool)) (cnt : TSTerm → Nat) (pc : TSTerm → Int) (hrec : ∀ x, x ∈ xs → recf x = some (pc x, decide (cnt x ≤ 30)) ∧ (cnt x ≤ 30 → pc x = (cnt x : Int))) (hn : xs.length ≤ 100000000) :
  lim (fun kk => Z3 t recf (fun n => some (n, true)) kk 1 0) = some (pgo (xs.map fun x => (pc x, cnt x)) 1, decide (cgo (xs.map cnt) 1 ≤ 30)) ∧ (cgo (xs.map cnt) 1 ≤ 30 → pgo (xs.map fun x => (pc x, cnt x)) 1 = (cgo (xs.map cnt) 1 : Int)) := by
 have hl : t.Subs.length = xs.length := by have := congrArg List.length e; simpa using this
 refine Or.elim (rounds_lim (σ := Int) (fun m s i => Z3 t recf (fun n => some (n, true)) m s i) (fun s => some (s, true)) xs.length
  (fun i s => ∃ n : Nat, s = (n : Int) ∧ n ≤ 30 ∧ cgo (xs.map cnt) 1 = cgo ((xs.drop i).map cnt) n ∧ pgo (xs.map fun x => (pc x, cnt x)) 1 = pgo ((xs.drop i).map fun x => (pc x, cnt x)) n) (fun v => v = some (pgo (xs.map fun x => (pc x, cnt x)) 1, false) ∧ 30 < cgo (xs.map cnt) 1) 1 ⟨1, rfl, by omega, by simp, by simp⟩ ?_ ?_) ?_ ?_
 ·intro m s hs
  show Z3 t recf (fun n => some (n, true)) (m + 1) s (xs.length : Int) = _
  rw [Z3, if_neg (by rw [hl]; simp)]
 ·rintro s i hi ⟨n, rfl, hn1, hgo, hpg⟩
  have hd : xs.drop i = xs[i] :: xs.drop (i + 1) := List.drop_eq_getElem_cons hi
  rw [hd, List.map_cons, cgo, if_pos hn1] at hgo
  rw [hd, List.map_cons, pgo] at hpg
  simp only at hpg
  obtain ⟨r, r1, r2⟩ := kid_at e hi
  obtain ⟨hx, hpc⟩ := hrec _ (List.getElem_mem hi)
  have hge := cgo_ge ((xs.drop (i + 1)).map cnt) (n + cnt xs[i])
  have head : ∀ m, Z3 t recf (fun n => some (n, true)) (m + 1) (n : Int) (i : Int) = if ((!decide (cnt xs[i] ≤ 30)) || (decide (30 < (wi ((n : Int) + pc xs[i]))))) = true then some (wi ((n : Int) + pc xs[i]), false) else Z3 t recf (fun n => some (n, true)) m (wi ((n : Int) + pc xs[i])) (wi ((i : Int) + 1)) := by
   intro m
   rw [Z3, if_pos (by rw [hl]; exact lt_pos hi), r1, Option.bind_some, r2, Option.bind_some, hx, Option.bind_some]
  by_cases hc : cnt xs[i] ≤ 30
  ·have hp := hpc hc
   have hw : wi ((n : Int) + pc xs[i]) = ((n + cnt xs[i] : Nat) : Int) := by rw [hp, wi_id (by omega) (by omega)]; omega
   by_cases h30 : n + cnt xs[i] ≤ 30
   ·left
    rw [if_pos ⟨hc, by rw [hw]; omega⟩, hw] at hpg
    refine ⟨((n + cnt xs[i] : Nat) : Int), ⟨_, rfl, h30, hgo, hpg⟩, fun m => ?_⟩
    show Z3 t recf (fun n => some (n, true)) (m + 1) (n : Int) (i : Int) = Z3 t recf (fun n => some (n, true)) m _ _
    rw [head, hw, if_neg (by simp only [hc, decide_true, Bool.not_true, Bool.false_or, decide_eq_true_eq]; omega), wi_next hi (by omega)]
   ·right
    rw [if_neg (fun h => h30 (by have := h.2; rw [hw] at this; omega))] at hpg
    refine ⟨some (wi ((n : Int) + pc xs[i]), false), ⟨by rw [hpg], by omega⟩, fun m => ?_⟩
    show Z3 t recf (fun n => some (n, true)) (m + 1) (n : Int) (i : Int) = _
    rw [head, if_pos (by rw [hw]; simp only [hc, decide_true, Bool.not_true, Bool.false_or, decide_eq_true_eq]; omega)]
  ·right
   rw [if_neg (fun h => hc h.1)] at hpg
   refine ⟨some (wi ((n : Int) + pc xs[i]), false), ⟨by rw [hpg], by omega⟩, fun m => ?_⟩
   show Z3 t recf (fun n => some (n, true)) (m + 1) (n : Int) (i : Int) = _
   rw [head, if_pos (by simp [hc])]
 ·rintro ⟨s, ⟨n, rfl, hn1, hgo, hpg⟩, h⟩
  rw [List.drop_length] at hgo hpg
  have hgo' : cgo (xs.map cnt) 1 = n := hgo
  have hpg' : pgo (xs.map fun x => (pc x, cnt x)) 1 = (n : Int) := hpg
  rw [h, hgo', decide_eq_true hn1, hpg']
  exact ⟨rfl, fun _ => rfl⟩
 ·rintro ⟨v, ⟨rfl, hb⟩, h⟩
  rw [h, decide_eq_false (by omega)]
  exact ⟨rfl, fun h => absurd h (by omega)⟩
def ferr : List (TVal × Int) → Option Int
 | [] => none
 | x :: r => if x.2 = 0 then ferr r else some x.2
theorem pval_step (t : TSTerm) (k_ : TSScale) (xs : List TSTerm) (e : t.Subs.map (·.c) = xs.map e_TSTerm) (recf : TSTerm → TSScale → Option (TVal × Int)) (val : TSTerm → TVal × Int) (hrec : ∀ x, x ∈ xs → recf x k_ = some (val x)) (hn : xs.length ≤ 100000000) (K : List TVal → Option (TVal × Int)) :
  (ferr (xs.map val) = none ∧ lim (fun kk => Z4 t recf k_ K kk ([] : List TVal) 0) = K (xs.map fun x => (val x).1)) ∨ ∃ er, ferr (xs.map val) = some er ∧ lim (fun kk => Z4 t recf k_ K kk ([] : List TVal) 0) = some ((⟨0, 0⟩ : TVal), er) := by
 have hl : t.Subs.length = xs.length := by have := congrArg List.length e; simpa using this
 refine Or.elim (rounds_lim (σ := List TVal) (fun m s i => Z4 t recf k_ K m s i) K xs.length
  (fun i s => s = (xs.take i).map (fun x => (val x).1) ∧ ferr (xs.map val) = ferr ((xs.drop i).map val)) (fun v => ∃ er, ferr (xs.map val) = some er ∧ v = some ((⟨0, 0⟩ : TVal), er)) [] ⟨by simp, by simp⟩ ?_ ?_) ?_ ?_
 ·intro m s hs
  show Z4 t recf k_ K (m + 1) s (xs.length : Int) = _
  rw [Z4, if_neg (by rw [hl]; simp)]
 ·rintro s i hi ⟨hs, hf⟩
  have hd : xs.drop i = xs[i] :: xs.drop (i + 1) := List.drop_eq_getElem_cons hi
  rw [hd, List.map_cons, ferr] at hf
  obtain ⟨r, r1, r2⟩ := kid_at e hi
  have hx := hrec _ (List.getElem_mem hi)
  have hsl : s.length ≤ i := by rw [hs, List.length_map, List.length_take]; omega
  have e1 : (xs.take (i + 1)).map (fun x => (val x).1) = (xs.take i).map (fun x => (val x).1) ++ [(val xs[i]).1] := by rw [take_succ_get hi, List.map_append]; rfl
  by_cases h0 : (val xs[i]).2 = 0
  ·left
   rw [if_pos h0] at hf
   refine ⟨_, ⟨rfl, hf⟩, fun m => ?_⟩
   show Z4 t recf k_ K (m + 1) s (i : Int) = Z4 t recf k_ K m _ _
   rw [Z4, if_pos (by rw [hl]; exact lt_pos hi), r1, Option.bind_some, r2, Option.bind_some, hx, Option.bind_some, if_neg (by simp [h0]), appq (by simp only [List.length_cons, List.length_nil]; omega), Option.bind_some, wi_next hi (by omega), e1, hs]
  ·right
   rw [if_neg h0] at hf
   refine ⟨some ((⟨0, 0⟩ : TVal), (val xs[i]).2), ⟨_, hf, rfl⟩, fun m => ?_⟩
   show Z4 t recf k_ K (m + 1) s (i : Int) = _
   rw [Z4, if_pos (by rw [hl]; exact lt_pos hi), r1, Option.bind_some, r2, Option.bind_some, hx, Option.bind_some, if_pos (by simp [h0])]
 ·rintro ⟨s, ⟨hs, hf⟩, h⟩
  rw [List.take_length] at hs
  rw [List.drop_length] at hf
  exact .inl ⟨hf, by rw [h, hs]⟩
 ·rintro ⟨v, ⟨er, h1, rfl⟩, h⟩
  exact .inr ⟨er, h1, h⟩
theorem rval_step (t : TSTerm) (k_ : TSScale) (xs : List TSTerm) (e : t.Subs.map (·.c) = xs.map e_TSTerm) (recf : TSTerm → TSScale → Option (TVal × Int)) (val : TSTerm → TVal × Int) (hrec : ∀ x, x ∈ xs → recf x k_ = some (val x)) (hn : xs.length ≤ 100000000) (K : List TVal → Option (TVal × Int)) :
  (ferr (xs.map val) = none ∧ lim (fun kk => Z5 t recf k_ K kk ([] : List TVal) 0) = K (xs.map fun x => (val x).1)) ∨ ∃ er, ferr (xs.map val) = some er ∧ lim (fun kk => Z5 t recf k_ K kk ([] : List TVal) 0) = some ((⟨0, 0⟩ : TVal), er) := by
 have hl : t.Subs.length = xs.length := by have := congrArg List.length e; simpa using this
 refine Or.elim (rounds_lim (σ := List TVal) (fun m s i => Z5 t recf k_ K m s i) K xs.length
  (fun i s => s = (xs.take i).map (fun x => (val x).1) ∧ ferr (xs.map val) = ferr ((xs.drop i).map val)) (fun v => ∃ er, ferr (xs.map val) = some er ∧ v = some ((⟨0, 0⟩ : TVal), er)) [] ⟨by simp, by simp⟩ ?_ ?_) ?_ ?_
 ·intro m s hs
  show Z5 t recf k_ K (m + 1) s (xs.length : Int) = _
  rw [Z5, if_neg (by rw [hl]; simp)]
 ·rintro s i hi ⟨hs, hf⟩
  have hd : xs.drop i = xs[i] :: xs.drop (i + 1) := List.drop_eq_getElem_cons hi
  rw [hd, List.map_cons, ferr] at hf
  obtain ⟨r, r1, r2⟩ := kid_at e hi
  have hx := hrec _ (List.getElem_mem hi)
  have hsl : s.length ≤ i := by rw [hs, List.length_map, List.length_take]; omega
  have e1 : (xs.take (i + 1)).map (fun x => (val x).1) = (xs.take i).map (fun x => (val x).1) ++ [(val xs[i]).1] := by rw [take_succ_get hi, List.map_append]; rfl
  by_cases h0 : (val xs[i]).2 = 0
  ·left
   rw [if_pos h0] at hf
   refine ⟨_, ⟨rfl, hf⟩, fun m => ?_⟩
   show Z5 t recf k_ K (m + 1) s (i : Int) = Z5 t recf k_ K m _ _
   rw [Z5, if_pos (by rw [hl]; exact lt_pos hi), r1, Option.bind_some, r2, Option.bind_some, hx, Option.bind_some, if_neg (by simp [h0]), appq (by simp only [List.length_cons, List.length_nil]; omega), Option.bind_some, wi_next hi (by omega), e1, hs]
  ·right
   rw [if_neg h0] at hf
   refine ⟨some ((⟨0, 0⟩ : TVal), (val xs[i]).2), ⟨_, hf, rfl⟩, fun m => ?_⟩
   show Z5 t recf k_ K (m + 1) s (i : Int) = _
   rw [Z5, if_pos (by rw [hl]; exact lt_pos hi), r1, Option.bind_some, r2, Option.bind_some, hx, Option.bind_some, if_pos (by simp [h0])]
 ·rintro ⟨s, ⟨hs, hf⟩, h⟩
  rw [List.take_length] at hs
  rw [List.drop_length] at hf
  exact .inl ⟨hf, by rw [h, hs]⟩
 ·rintro ⟨v, ⟨er, h1, rfl⟩, h⟩
  exact .inr ⟨er, h1, h⟩
theorem px_in {d : TSDim} {k : TSScale} {r : Int × Int} (h : Z1k d k = some r) : -16777216 ≤ r.1 ∧ r.1 ≤ 16777216 := by
 have fin : ∀ {o : Option Int}, (o.bind fun q => some ((Z0 q), (0 : Int))) = some r → -16777216 ≤ r.1 ∧ r.1 ≤ 16777216 := by
  intro o h
  obtain ⟨q, _, h⟩ := Option.bind_eq_some_iff.1 h
  cases h
  exact cut_in q
 unfold Z1k at h
 split at h
 ·cases h; exact ⟨by omega, by omega⟩
 split at h
 ·exact fin h
 split at h
 ·exact fin h
 split at h
 ·exact fin h
 split at h
 ·exact fin h
 split at h
 ·exact fin h
 split at h
 ·cases h; exact ⟨by omega, by omega⟩
 ·cases h; exact ⟨by omega, by omega⟩
theorem number_eq (d : TSDim) (k : TSScale) (h1 : -9223372036854775808 ≤ d.Num) (h2 : d.Num ≤ 9223372036854775807) : ∃ w : TVal × Int, Z2o d k = some w ∧ Z2r d k = some w ∧ inR w.1 := by
 unfold Z2o Z2r
 by_cases c1 : d.Unit = []
 ·rw [if_pos (show decide (d.Unit = []) = true by simpa using c1), if_pos (show decide (d.Unit = []) = true by simpa using c1), ccut_same]
  exact ⟨_, rfl, rfl, cut_in _⟩
 rw [if_neg (show ¬ decide (d.Unit = []) = true by simpa using c1), if_neg (show ¬ decide (d.Unit = []) = true by simpa using c1)]
 by_cases c2 : d.Unit = [37]
 ·rw [if_pos (show decide (d.Unit = [37]) = true by simpa using c2), if_pos (show decide (d.Unit = [37]) = true by simpa using c2)]
  obtain ⟨q, q1, q2⟩ := down_pos d.Num 10 (by omega) h1 h2
  simp only [q1, q2, Option.bind_some, ccut_same]
  exact ⟨_, rfl, rfl, cut_in _⟩
 rw [if_neg (show ¬ decide (d.Unit = [37]) = true by simpa using c2), if_neg (show ¬ decide (d.Unit = [37]) = true by simpa using c2)]
 obtain ⟨r, r1, r2⟩ := px_eq d k
 have hin := px_in r2
 simp only [r1, r2, Option.bind_some]
 split
 ·exact ⟨_, rfl, rfl, by unfold inR; exact ⟨by show -16777216 ≤ (0 : Int); omega, by show (0 : Int) ≤ 16777216; omega⟩⟩
 ·exact ⟨_, rfl, rfl, hin⟩
theorem prod_in {a b : Int} (h1 : -16777216 ≤ a) (h2 : a ≤ 16777216) (h3 : -16777216 ≤ b) (h4 : b ≤ 16777216) : -281474976710656 ≤ a * b ∧ a * b ≤ 281474976710656 := by
 have h := Nat.mul_le_mul (show a.natAbs ≤ 16777216 by omega) (show b.natAbs ≤ 16777216 by omega)
 rw [← Int.natAbs_mul] at h
 omega
def zV : TVal := ⟨0, 0⟩
theorem z_in : inR ⟨0, 0⟩ := ⟨by show -16777216 ≤ (0 : Int); omega, by show (0 : Int) ≤ 16777216; omega⟩
theorem times_eq (a b : TVal) (ha : inR a) (hb : inR b) : ∃ w : TVal × Int, Z1v a b = some w ∧ Z8 4 a b = some w ∧ inR w.1 ∧ (w.2 ≠ 0 → w.1 = ⟨0, 0⟩) := by
 obtain ⟨p1, p2⟩ := prod_in ha.1 ha.2 hb.1 hb.2
 obtain ⟨q, q1, q2⟩ := down_pos (a.N * b.N) 1000 (by omega) (by omega) (by omega)
 have hw : wi (a.N * b.N) = a.N * b.N := wi_id (by omega) (by omega)
 have hw2 : wi (b.N * a.N) = a.N * b.N := by rw [Int.mul_comm, hw]
 have ej : ∀ o, Z20 a b o = some (⟨o, Z0 q⟩, 0) := fun o => by
  unfold Z20
  rw [hw, q2]; rfl
 unfold Z1v Z2p Z8
 rw [if_pos (show decide ((4 : Int) = 4) = true by decide), ej, ej, hw, hw2, q1]
 simp only [Option.bind_some, ccut_same]
 by_cases cb : b.Kind = 4
 ·by_cases ca : a.Kind = 4
  ·simp only [ca, cb, decide_true, Bool.not_true, Bool.false_eq_true, if_false, Bool.and_self, if_true, Option.bind_some]
   exact ⟨_, rfl, rfl, cut_in _, fun h => absurd rfl h⟩
  ·simp only [ca, cb, decide_true, decide_false, Bool.not_true, Bool.not_false, Bool.false_eq_true, if_false, Bool.and_false, if_true, Option.bind_some]
   exact ⟨_, rfl, rfl, cut_in _, fun h => absurd rfl h⟩
 ·by_cases ca : a.Kind = 4
  ·simp only [ca, cb, decide_true, decide_false, Bool.not_true, Bool.not_false, Bool.false_eq_true, if_false, Bool.false_and, if_true, Option.bind_some]
   exact ⟨_, rfl, rfl, cut_in _, fun h => absurd rfl h⟩
  ·simp only [ca, cb, decide_false, Bool.not_false, Bool.and_self, if_true, Option.bind_some]
   exact ⟨_, rfl, rfl, z_in, fun _ => rfl⟩
theorem divided_eq (a b : TVal) (ha : inR a) (hb : inR b) : ∃ w : TVal × Int, Z1w a b = some w ∧ Z8 5 a b = some w ∧ inR w.1 ∧ (w.2 ≠ 0 → w.1 = ⟨0, 0⟩) := by
 obtain ⟨a1', a2'⟩ := ha
 obtain ⟨b1', b2'⟩ := hb
 have hw : wi (a.N * 1000) = a.N * 1000 := wi_id (by omega) (by omega)
 unfold Z1w Z8
 rw [if_neg (show ¬ (decide ((5 : Int) = 4)) = true by decide), if_pos (show (decide ((5 : Int) = 5)) = true by decide)]
 by_cases cb : b.Kind = 4
 ·by_cases c0 : b.N = 0
  ·simp only [cb, c0, decide_true, Bool.not_true, Bool.false_eq_true, if_false, if_true]
   exact ⟨_, rfl, rfl, z_in, fun _ => rfl⟩
  ·obtain ⟨q, q1, q2⟩ := floor_eq (a.N * 1000) b.N c0 (by omega) (by omega) (by omega) (by omega)
   rw [hw, q1, q2]
   simp only [cb, c0, decide_true, decide_false, Bool.not_true, Bool.false_eq_true, if_false, Option.bind_some, ccut_same]
   exact ⟨_, rfl, rfl, cut_in _, fun h => absurd rfl h⟩
 ·simp only [cb, decide_false, Bool.not_false, if_true]
  exact ⟨_, rfl, rfl, z_in, fun _ => rfl⟩
noncomputable def pfold (kind : Int) : TVal → List TVal → Option (TVal × Int)
 | v, [] => some (v, 0)
 | v, x :: r => (Z8 kind v x).bind fun w => if (!decide (w.2 = 0)) then some ((⟨0, 0⟩ : TVal), w.2) else pfold kind w.1 r
theorem ref_loop (l : List TVal) (t : TSTerm) (hl : l.length ≤ 100000000) : ∀ (r : List TVal) (i : Nat) (v : TVal), l.drop i = r → ∀ m, Zg l t (fun (v01 : Int) (v11 : Int) => some ((⟨v01, v11⟩ : TVal), 0)) (m + r.length + 1) v.Kind v.N (i : Int) = pfold t.Kind v r
 | [], i, v, hd, m => by
  have : l.length ≤ i := List.drop_eq_nil_iff.1 hd
  rw [Zg, if_neg (by simp only [decide_eq_true_eq]; omega), pfold]
 | x :: r, i, v, hd, m => by
  have hi : i < l.length := by
   rcases Nat.lt_or_ge i l.length with h | h
   ·exact h
   ·rw [List.drop_eq_nil_of_le h] at hd; cases hd
  have e1 := List.drop_eq_getElem_cons hi
  rw [hd] at e1
  obtain ⟨e2, e3⟩ := List.cons.inj e1
  rw [List.length_cons, show m + (r.length + 1) + 1 = (m + r.length + 1) + 1 by omega, Zg, if_pos (lt_pos hi), at_some hi, ← e2, Option.bind_some, pfold, wi_next hi (by omega)]
  congr 1
  funext w
  split
  ·rfl
  ·exact ref_loop l t hl r (i + 1) w.1 e3.symm m
def opN (kind o n : Int) : Int := if kind = 2 then wi (o + n) else if kind = 3 then wi (o - n) else if kind = 6 then mn o n else if kind = 7 then mx o n else o
noncomputable def afold (kind : Int) (a : TVal) (K : Int → Option (TVal × Int)) : Int → List TVal → Option (TVal × Int)
 | out, [] => K out
 | out, x :: r => if (!decide (x.Kind = a.Kind)) then some ((⟨0, 0⟩ : TVal), 7) else afold kind a K (opN kind out x.N) r
theorem alike_loop (q l : List TVal) (a : TVal) (kind : Int) (K : Int → Option (TVal × Int)) (hl : q.length ≤ 100000000) : ∀ (r : List TVal) (i : Nat) (out : Int), q.drop i = r → ∀ m, Zd q a kind l K (m + r.length + 1) out (i : Int) = afold kind a K out r
 | [], i, out, hd, m => by
  have : q.length ≤ i := List.drop_eq_nil_iff.1 hd
  rw [Zd, if_neg (by simp only [decide_eq_true_eq]; omega), afold]
 | x :: r, i, out, hd, m => by
  have hi : i < q.length := by
   rcases Nat.lt_or_ge i q.length with h | h
   ·exact h
   ·rw [List.drop_eq_nil_of_le h] at hd; cases hd
  have e1 := List.drop_eq_getElem_cons hi
  rw [hd] at e1
  obtain ⟨e2, e3⟩ := List.cons.inj e1
  have ih := fun o => alike_loop q l a kind K hl r (i + 1) o e3.symm m
  rw [List.length_cons, show m + (r.length + 1) + 1 = (m + r.length + 1) + 1 by omega, Zd, if_pos (lt_pos hi), at_some hi, ← e2, Option.bind_some, afold]
  by_cases c : x.Kind = a.Kind
  ·have c' : ¬ (!decide (x.Kind = a.Kind)) = true := by simp [c]
   rw [if_neg c', if_neg c']
   unfold Z18 opN
   rw [wi_next hi (by omega)]
   by_cases k2 : kind = 2
   ·rw [if_pos (show decide (kind = 2) = true by simpa using k2), if_pos k2]; exact ih _
   rw [if_neg (show ¬ decide (kind = 2) = true by simpa using k2), if_neg k2]
   by_cases k3 : kind = 3
   ·rw [if_pos (show decide (kind = 3) = true by simpa using k3), if_pos k3]; exact ih _
   rw [if_neg (show ¬ decide (kind = 3) = true by simpa using k3), if_neg k3]
   by_cases k6 : kind = 6
   ·rw [if_pos (show decide (kind = 6) = true by simpa using k6), if_pos k6]; exact ih _
   rw [if_neg (show ¬ decide (kind = 6) = true by simpa using k6), if_neg k6]
   by_cases k7 : kind = 7
   ·rw [if_pos (show decide (kind = 7) = true by simpa using k7), if_pos k7]; exact ih _
   rw [if_neg (show ¬ decide (kind = 7) = true by simpa using k7), if_neg k7]; exact ih _
  ·have c' : (!decide (x.Kind = a.Kind)) = true := by simp [c]
   rw [if_pos c', if_pos c']
theorem alike_eq (kind : Int) (a : TVal) (r : List TVal) (hr : r.length ≤ 1048576) : Z1x kind (a :: r) = afold kind a (fun out11 => if decide (kind = 8) then (at? (a :: r) 0).bind fun x_2 => (at? (a :: r) 1).bind fun x_3 => (at? (a :: r) 2).bind fun x_4 => Zl a (mx x_2.N (mn x_3.N x_4.N)) else Zl a out11) a.N r := by
 unfold Z1x
 have e0 : at? (a :: r) 0 = some a := rfl
 have e1 : sub? (a :: r) 1 ((a :: r).length : Int) = some r := by
  have := sub_drop (l := a :: r) (a := 1) (by simp)
  simpa using this
 rw [e0, Option.bind_some, e1, Option.bind_some]
 exact lim_add (r.length + 1) fun m => alike_loop r (a :: r) a kind _ (by omega) r 0 a.N rfl m
theorem ref_eq2 (t : TSTerm) (a : TVal) (r : List TVal) (hr : r.length ≤ 1048576) : lim (fun kk => Zg (a :: r) t (fun (v01 : Int) (v11 : Int) => some ((⟨v01, v11⟩ : TVal), 0)) kk a.Kind a.N 1) = pfold t.Kind a r :=
 lim_add (r.length + 1) fun m => ref_loop (a :: r) t (by simp; omega) r 1 a rfl m
theorem pair_same {kind : Int} (hk : kind = 2 ∨ kind = 3 ∨ kind = 6 ∨ kind = 7) (a b : TVal) (h : a.Kind = b.Kind) : Z8 kind a b = some (⟨a.Kind, Z0 (opN kind a.N b.N)⟩, 0) := by
 unfold Z8 Z2u Z2t Z2s opN
 rcases hk with rfl | rfl | rfl | rfl <;> simp [h]
theorem pair_diff {kind : Int} (hk : kind = 2 ∨ kind = 3 ∨ kind = 6 ∨ kind = 7) (a b : TVal) (h : ¬ a.Kind = b.Kind) : Z8 kind a b = some (⟨0, 0⟩, 7) := by
 unfold Z8
 rcases hk with rfl | rfl | rfl | rfl <;> simp [h]
theorem mm_in {kind o n : Int} (hk : kind = 6 ∨ kind = 7) (h1 : -16777216 ≤ o ∧ o ≤ 16777216) (h2 : -16777216 ≤ n ∧ n ≤ 16777216) : -16777216 ≤ opN kind o n ∧ opN kind o n ≤ 16777216 := by
 unfold opN mn mx
 rcases hk with rfl | rfl
 ·simp; split <;> omega
 ·simp; split <;> omega
theorem fold_mm {kind : Int} (hk : kind = 6 ∨ kind = 7) (a : TVal) : ∀ (r : List TVal) (v : TVal), inR v → (∀ x ∈ r, inR x) → v.Kind = a.Kind →
  ∃ w : TVal × Int, afold kind a (fun out => Zl a out) v.N r = some w ∧ pfold kind v r = some w ∧ inR w.1
 | [], v, hv, _, hk2 => by
  refine ⟨(v, 0), ?_, rfl, hv⟩
  rw [afold, Zl, ccut_same, cut_id hv.1 hv.2, ← hk2]
 | x :: r, v, hv, hr, hk2 => by
  have hx := hr x (List.mem_cons_self ..)
  have hm := mm_in hk hv hx
  rw [afold, pfold]
  by_cases c : x.Kind = a.Kind
  ·rw [pair_same (by omega) v x (by rw [hk2, c]), if_neg (by simp [c]), Option.bind_some, if_neg (by simp), cut_id hm.1 hm.2]
   exact fold_mm hk a r ⟨v.Kind, opN kind v.N x.N⟩ hm (fun y hy => hr y (List.mem_cons_of_mem _ hy)) hk2
  ·rw [pair_diff (by omega) v x (by rw [hk2]; exact fun h => c h.symm), if_pos (by simp [c]), Option.bind_some, if_pos (by simp)]
   exact ⟨_, rfl, rfl, z_in⟩
theorem fold_one {kind : Int} (hk : kind = 2 ∨ kind = 3) (a b : TVal) : ∃ w : TVal × Int, afold kind a (fun out => Zl a out) a.N [b] = some w ∧ pfold kind a [b] = some w ∧ inR w.1 := by
 rw [afold, afold, pfold]
 by_cases c : b.Kind = a.Kind
 ·rw [pair_same (by omega) a b c.symm, if_neg (by simp [c]), Option.bind_some, if_neg (by simp), pfold, Zl, ccut_same]
  exact ⟨_, rfl, rfl, cut_in _⟩
 ·rw [pair_diff (by omega) a b (fun h => c h.symm), if_pos (by simp [c]), Option.bind_some, if_pos (by simp)]
  exact ⟨_, rfl, rfl, z_in⟩
/-- what the program does with the values of the parts -/
noncomputable def Kp (t_ : TSTerm) : List TVal → Option (TVal × Int) := fun l_1 =>
     if decide (t_.Kind = 4) then
      (at? l_1 0).bind fun x_1 =>
      (at? l_1 1).bind fun x_2 =>
      (Z1v x_1 x_2).bind fun r_4 =>
      some (r_4.1, r_4.2)
     else
      if decide (t_.Kind = 5) then
       (at? l_1 0).bind fun x_3 =>
       (at? l_1 1).bind fun x_4 =>
       (Z1w x_3 x_4).bind fun r_5 =>
       some (r_5.1, r_5.2)
      else
       (Z1x t_.Kind l_1).bind fun r_6 =>
       some (r_6.1, r_6.2)
/-- what the document does with them -/
noncomputable def Kr (t_ : TSTerm) : List TVal → Option (TVal × Int) := fun l_1 =>
     if decide (t_.Kind = 8) then
      (at? l_1 1).bind fun x_1 =>
      (at? l_1 2).bind fun x_2 =>
      (Z8 6 x_1 x_2).bind fun r_4 =>
      if (!decide (r_4.2 = 0)) then
       Zw r_4 l_1 true
      else
       (at? l_1 0).bind fun x_4 =>
       (at? l_1 1).bind fun x_5 =>
       Zw r_4 l_1 (!decide (x_4.Kind = x_5.Kind))
     else
      (at? l_1 0).bind fun x_6 =>
      lim fun kk => Zg l_1 t_ (fun (v01 : Int) (v11 : Int) => 
        some ((⟨v01, v11⟩ : TVal), 0)) kk x_6.Kind x_6.N 1
theorem comb_two (t : TSTerm) (a b : TVal) (ha : inR a) (hb : inR b) (hk : t.Kind = 2 ∨ t.Kind = 3 ∨ t.Kind = 4 ∨ t.Kind = 5) : ∃ w : TVal × Int, Kp t [a, b] = some w ∧ Kr t [a, b] = some w ∧ inR w.1 := by
 have e0 : at? [a, b] 0 = some a := rfl
 have e1 : at? [a, b] 1 = some b := rfl
 have h8 : ¬ decide (t.Kind = 8) = true := by simp only [decide_eq_true_eq]; omega
 have hr := ref_eq2 t a [b] (by simp)
 unfold Kp Kr
 rw [if_neg h8, e0, e1]
 simp only [Option.bind_some]
 rw [hr]
 have one : ∀ w : TVal × Int, (w.2 ≠ 0 → w.1 = ⟨0, 0⟩) → Z8 t.Kind a b = some w → pfold t.Kind a [b] = some w := by
  intro w hz hw
  rw [pfold, hw, Option.bind_some]
  obtain ⟨w1, w2⟩ := w
  by_cases h0 : w2 = 0
  ·subst h0; rw [if_neg (by simp), pfold]
  ·have := hz h0
   simp only at this
   subst this
   rw [if_pos (by simp [h0])]
 by_cases k4 : t.Kind = 4
 ·obtain ⟨w, w1, w2, w3, w4⟩ := times_eq a b ha hb
  rw [if_pos (show decide (t.Kind = 4) = true by simpa using k4), w1]
  refine ⟨w, rfl, one w w4 (by rw [k4]; exact w2), w3⟩
 rw [if_neg (show ¬ decide (t.Kind = 4) = true by simpa using k4)]
 by_cases k5 : t.Kind = 5
 ·obtain ⟨w, w1, w2, w3, w4⟩ := divided_eq a b ha hb
  rw [if_pos (show decide (t.Kind = 5) = true by simpa using k5), w1]
  refine ⟨w, rfl, one w w4 (by rw [k5]; exact w2), w3⟩
 rw [if_neg (show ¬ decide (t.Kind = 5) = true by simpa using k5), alike_eq t.Kind a [b] (by simp)]
 obtain ⟨w, w1, w2, w3⟩ := fold_one (kind := t.Kind) (by omega) a b
 refine ⟨w, ?_, w2, w3⟩
 simp only [h8, if_false, Bool.false_eq_true]
 rw [w1]
 rfl
theorem comb_mm (t : TSTerm) (a : TVal) (r : List TVal) (hr : r.length ≤ 1048576) (ha : inR a) (hb : ∀ x ∈ r, inR x) (hk : t.Kind = 6 ∨ t.Kind = 7) : ∃ w : TVal × Int, Kp t (a :: r) = some w ∧ Kr t (a :: r) = some w ∧ inR w.1 := by
 have e0 : at? (a :: r) 0 = some a := rfl
 have h8 : ¬ decide (t.Kind = 8) = true := by simp only [decide_eq_true_eq]; omega
 have h4 : ¬ decide (t.Kind = 4) = true := by simp only [decide_eq_true_eq]; omega
 have h5 : ¬ decide (t.Kind = 5) = true := by simp only [decide_eq_true_eq]; omega
 unfold Kp Kr
 rw [if_neg h8, if_neg h4, if_neg h5, e0, Option.bind_some, ref_eq2 t a r hr, alike_eq t.Kind a r hr]
 obtain ⟨w, w1, w2, w3⟩ := fold_mm hk a r a ha hb rfl
 refine ⟨w, ?_, w2, w3⟩
 simp only [h8, if_false, Bool.false_eq_true]
 rw [w1]
 rfl
theorem comb_mid (t : TSTerm) (a b c : TVal) (ha : inR a) (hb : inR b) (hc : inR c) (hk : t.Kind = 8) : ∃ w : TVal × Int, Kp t [a, b, c] = some w ∧ Kr t [a, b, c] = some w ∧ inR w.1 := by
 have e0 : at? [a, b, c] 0 = some a := rfl
 have e1 : at? [a, b, c] 1 = some b := rfl
 have e2 : at? [a, b, c] 2 = some c := rfl
 have h8 : decide (t.Kind = 8) = true := by simpa using hk
 have h4 : ¬ decide (t.Kind = 4) = true := by simp only [decide_eq_true_eq]; omega
 have h5 : ¬ decide (t.Kind = 5) = true := by simp only [decide_eq_true_eq]; omega
 have hm := mm_in (kind := 6) (.inl rfl) hb hc
 unfold Kp Kr
 rw [if_pos h8, if_neg h4, if_neg h5, alike_eq t.Kind a [b, c] (by simp)]
 simp only [e0, e1, e2, Option.bind_some, h8, if_true, afold]
 by_cases c1 : b.Kind = c.Kind
 ·rw [pair_same (by omega) b c c1]
  simp only [Option.bind_some, decide_true, Bool.not_true, Bool.false_eq_true, if_false]
  by_cases c2 : a.Kind = b.Kind
  ·have hmm := mm_in (kind := 7) (.inr rfl) ha (n := opN 6 b.N c.N) hm
   have k1 : b.Kind = a.Kind := c2.symm
   have k2 : c.Kind = a.Kind := by rw [← c1, k1]
   simp only [k1, k2, decide_true, Bool.not_true, Bool.false_eq_true, if_false, Zw, e0, Option.bind_some]
   rw [pair_same (kind := 7) (by omega) a ⟨a.Kind, Z0 (opN 6 b.N c.N)⟩ rfl]
   refine ⟨(⟨a.Kind, Z0 (mx a.N (mn b.N c.N))⟩, 0), ?_, ?_, cut_in _⟩
   ·simp only [Zl, Option.bind_some, ccut_same]
   ·simp only [Option.bind_some]
    rw [cut_id hm.1 hm.2]
    rfl
  ·have k1 : ¬ b.Kind = a.Kind := fun h => c2 h.symm
   simp only [k1, c2, decide_false, Bool.not_false, if_true, Zw]
   exact ⟨_, rfl, rfl, z_in⟩
 ·rw [pair_diff (by omega) b c c1]
  refine ⟨(⟨0, 0⟩, 7), ?_, ?_, z_in⟩
  ·by_cases k1 : b.Kind = a.Kind
   ·have k2 : ¬ c.Kind = a.Kind := fun h => c1 (by rw [k1, h])
    simp [k1, k2]
   ·simp [k1]
  ·simp [Zw]
theorem may_lens {t : TSTerm} (h : Zb t = true) : (t.Kind = 2 ∨ t.Kind = 3 ∨ t.Kind = 4 ∨ t.Kind = 5 → t.Subs.length = 2) ∧ (t.Kind = 8 → t.Subs.length = 3) := by
 unfold Zb at h
 refine ⟨fun hk => ?_, fun hk => ?_⟩
 ·rw [if_neg (by simp only [decide_eq_true_eq]; omega), if_pos (by simp only [Bool.and_eq_true, decide_eq_true_eq]; omega), decide_eq_true_eq] at h
  omega
 ·rw [if_neg (by simp only [decide_eq_true_eq]; omega), if_neg (by simp only [Bool.and_eq_true, decide_eq_true_eq]; omega), if_neg (by simp only [Bool.or_eq_true, decide_eq_true_eq]; omega), Bool.and_eq_true, decide_eq_true_eq, decide_eq_true_eq] at h
  omega
theorem comb (t : TSTerm) (l : List TVal) (hm : Zb t = true) (h1 : t.Kind ≠ 1) (hl : l.length = t.Subs.length) (hn : l.length ≤ 1048576) (hR : ∀ x ∈ l, inR x) : ∃ w : TVal × Int, Kp t l = some w ∧ Kr t l = some w ∧ inR w.1 := by
 obtain ⟨hk, hs⟩ := may_kinds hm h1
 obtain ⟨l2, l3⟩ := may_lens hm
 by_cases k67 : t.Kind = 6 ∨ t.Kind = 7
 ·match l, hl, hn, hR with
  | [], hl, _, _ => exact absurd hl (by simp only [List.length_nil]; omega)
  | a :: r, hl, hn, hR => exact comb_mm t a r (by simp only [List.length_cons] at hn; omega) (hR a (List.mem_cons_self ..)) (fun x hx => hR x (List.mem_cons_of_mem _ hx)) k67
 ·by_cases k8 : t.Kind = 8
  ·match l, hl, hR with
   | [a, b, c], _, hR => exact comb_mid t a b c (hR a (by simp)) (hR b (by simp)) (hR c (by simp)) k8
   | [], hl, _ | [_], hl, _ | [_, _], hl, _ => exact absurd hl (by have := l3 k8; simp only [List.length_nil, List.length_cons]; omega)
   | _ :: _ :: _ :: _ :: _, hl, _ => exact absurd hl (by have := l3 k8; simp only [List.length_cons]; omega)
  ·have hk2 : t.Kind = 2 ∨ t.Kind = 3 ∨ t.Kind = 4 ∨ t.Kind = 5 := by omega
   match l, hl, hR with
   | [a, b], _, hR => exact comb_two t a b (hR a (by simp)) (hR b (by simp)) hk2
   | [], hl, _ | [_], hl, _ => exact absurd hl (by have := l2 hk2; simp only [List.length_nil, List.length_cons]; omega)
   | _ :: _ :: _ :: _, hl, _ => exact absurd hl (by have := l2 hk2; simp only [List.length_cons]; omega)
theorem term_main (k_ : TSScale) : ∀ (N : Nat) (t : TSTerm), bt t ≤ N → N ≤ 1048576 → ok26 t → ∃ c : Nat, (∃ K, ∀ k, K ≤ k → Zu k t = some (c : Int)) ∧ c ≤ 31 * bt t ∧
  (∃ p : Int, (∃ K, ∀ k, K ≤ k → Zj k t = some (p, decide (c ≤ 30))) ∧ (c ≤ 30 → p = (c : Int))) ∧
  (c ≤ 30 → ∃ w : TVal × Int, (∃ K, ∀ k, K ≤ k → Za k t k_ = some w) ∧ (∃ K, ∀ k, K ≤ k → Zc k t k_ = some w) ∧ inR w.1)
 | 0, t, hb, _, _ => absurd (bt_pos t) (by omega)
 | N + 1, t, hb, hN, hok => by
  obtain ⟨xs, e, hxs⟩ := kids_of t.Subs hok.2.2.2
  have hbk := bulk_eq t xs e
  have hl : t.Subs.length = xs.length := by have := congrArg List.length e; simpa using this
  have hle : ∀ x, x ∈ xs → bt x ≤ N := fun x hx => by have := sum_mem (f := bt) hx; omega
  have ih : ∀ x, x ∈ xs → _ := fun x hx => term_main k_ N x (hle x hx) (by omega) (hxs x hx)
  obtain ⟨cnt, hcnt⟩ : ∃ cnt : TSTerm → Nat, ∀ x, x ∈ xs → (∃ K, ∀ k, K ≤ k → Zu k x = some (cnt x : Int)) ∧ cnt x ≤ 31 * bt x ∧
    (∃ p : Int, (∃ K, ∀ k, K ≤ k → Zj k x = some (p, decide (cnt x ≤ 30))) ∧ (cnt x ≤ 30 → p = (cnt x : Int))) ∧
    (cnt x ≤ 30 → ∃ w : TVal × Int, (∃ K, ∀ k, K ≤ k → Za k x k_ = some w) ∧ (∃ K, ∀ k, K ≤ k → Zc k x k_ = some w) ∧ inR w.1) := by
   classical
   exact ⟨fun x => if h : x ∈ xs then (ih x h).choose else 0, fun x h => by simp only [dif_pos h]; exact (ih x h).choose_spec⟩
  obtain ⟨pc, hpc⟩ : ∃ pc : TSTerm → Int, ∀ x, x ∈ xs → (∃ K, ∀ k, K ≤ k → Zj k x = some (pc x, decide (cnt x ≤ 30))) ∧ (cnt x ≤ 30 → pc x = (cnt x : Int)) := by
   classical
   exact ⟨fun x => if h : x ∈ xs then (hcnt x h).2.2.1.choose else 0, fun x h => by simp only [dif_pos h]; exact (hcnt x h).2.2.1.choose_spec⟩
  have hn4 : xs.length ≤ (xs.map bt).sum := len_le_sum xs fun x _ => by have := bt_pos x; omega
  have hn : xs.length ≤ 100000000 := by omega
  have hsum : (xs.map cnt).sum ≤ 31 * (xs.map bt).sum := by
   have h1 := sum_le_of (xs := xs) (f := cnt) (fun x => 31 * bt x) fun x hx => (hcnt x hx).2.1
   rw [sum_mul] at h1
   exact h1
  by_cases hm : Zb t = true
  ·obtain ⟨K, hK⟩ := uni (Q := fun k x => Zu k x = some (cnt x : Int)) xs fun x hx => (hcnt x hx).1
   obtain ⟨K0, hK0⟩ := uni (Q := fun k x => Zj k x = some (pc x, decide (cnt x ≤ 30))) xs fun x hx => (hpc x hx).1
   have hsh : ¬ ((!(Z17 t)) = true) := by rw [shaped_eq, hm]; simp
   refine ⟨cgo (xs.map cnt) 1, ⟨K + 1, fun k hk => ?_⟩, ?_, ?_, fun h30 => ?_⟩
   ·obtain ⟨m, rfl⟩ : ∃ m, k = m + 1 := ⟨k - 1, by omega⟩
    rw [Zu, if_neg (by rw [hm]; simp)]
    exact count_step t xs e _ cnt (fun x hx => hK x hx m (by omega)) (by omega) hn
   ·have := cgo_le (xs.map cnt) 1
    omega
   ·have hps := fun m (hm' : K0 ≤ m) => pcount_step t xs e (Zj m) cnt pc (fun x hx => ⟨hK0 x hx m hm', (hpc x hx).2⟩) hn
    refine ⟨_, ⟨K0 + 1, fun k hk => ?_⟩, (hps K0 (Nat.le_refl _)).2⟩
    obtain ⟨m, rfl⟩ : ∃ m, k = m + 1 := ⟨k - 1, by omega⟩
    rw [Zj, if_neg hsh]
    exact (hps m (by omega)).1
   ·have hc := cgo_small _ _ h30
    by_cases h1 : t.Kind = 1
    ·have hwf := hok.2.1.1
     have hd : -9223372036854775808 ≤ t.Dim.Num ∧ t.Dim.Num ≤ 9223372036854775807 := by
      have := hwf
      unfold ok3 at this
      exact ok_i64 this
     obtain ⟨w, w1, w2, w3⟩ := number_eq t.Dim k_ hd.1 hd.2
     refine ⟨w, ⟨1, fun k hk => ?_⟩, ⟨1, fun k hk => ?_⟩, w3⟩
     ·obtain ⟨m, rfl⟩ : ∃ m, k = m + 1 := ⟨k - 1, by omega⟩
      rw [Za, if_pos (by simpa using h1), w1]
      rfl
     ·obtain ⟨m, rfl⟩ : ∃ m, k = m + 1 := ⟨k - 1, by omega⟩
      rw [Zc, if_pos (by simpa using h1), w2]
      rfl
    ·have hx30 : ∀ x, x ∈ xs → cnt x ≤ 30 := fun x hx => by have := sum_mem (f := cnt) hx; omega
     have hv : ∀ x, x ∈ xs → ∃ w : TVal × Int, (∃ K, ∀ k, K ≤ k → Za k x k_ = some w) ∧ (∃ K, ∀ k, K ≤ k → Zc k x k_ = some w) ∧ inR w.1 := fun x hx => (hcnt x hx).2.2.2 (hx30 x hx)
     obtain ⟨val, hval⟩ : ∃ val : TSTerm → TVal × Int, ∀ x, x ∈ xs → (∃ K, ∀ k, K ≤ k → Za k x k_ = some (val x)) ∧ (∃ K, ∀ k, K ≤ k → Zc k x k_ = some (val x)) ∧ inR (val x).1 := by
      classical
      exact ⟨fun x => if h : x ∈ xs then (hv x h).choose else (⟨0, 0⟩, 0), fun x h => by simp only [dif_pos h]; exact (hv x h).choose_spec⟩
     obtain ⟨K1, hK1⟩ := uni (Q := fun k x => Za k x k_ = some (val x)) xs fun x hx => (hval x hx).1
     obtain ⟨K2, hK2⟩ := uni (Q := fun k x => Zc k x k_ = some (val x)) xs fun x hx => (hval x hx).2.1
     obtain ⟨w, c1, c2, c3⟩ := comb t (xs.map fun x => (val x).1) hm h1 (by rw [List.length_map, hl]) (by rw [List.length_map]; omega) (fun y hy => by
      obtain ⟨x, hx, rfl⟩ := List.mem_map.1 hy
      exact (hval x hx).2.2)
     have hpv : ∀ m, K1 ≤ m → Za (m + 1) t k_ = lim fun kk => Z4 t (Za m) k_ (Kp t) kk ([] : List TVal) 0 := fun m _ => by
      rw [Za, if_neg (by simpa using h1)]; rfl
     have hrv : ∀ m, K2 ≤ m → Zc (m + 1) t k_ = lim fun kk => Z5 t (Zc m) k_ (Kr t) kk ([] : List TVal) 0 := fun m _ => by
      rw [Zc, if_neg (by simpa using h1)]; rfl
     cases hf : ferr (xs.map val) with
     | none =>
      refine ⟨w, ⟨K1 + 1, fun k hk => ?_⟩, ⟨K2 + 1, fun k hk => ?_⟩, c3⟩
      ·obtain ⟨m, rfl⟩ : ∃ m, k = m + 1 := ⟨k - 1, by omega⟩
       rw [hpv m (by omega)]
       rcases pval_step t k_ xs e (Za m) val (fun x hx => hK1 x hx m (by omega)) hn (Kp t) with ⟨_, h⟩ | ⟨er, h', _⟩
       ·rw [h, c1]
       ·rw [hf] at h'; cases h'
      ·obtain ⟨m, rfl⟩ : ∃ m, k = m + 1 := ⟨k - 1, by omega⟩
       rw [hrv m (by omega)]
       rcases rval_step t k_ xs e (Zc m) val (fun x hx => hK2 x hx m (by omega)) hn (Kr t) with ⟨_, h⟩ | ⟨er, h', _⟩
       ·rw [h, c2]
       ·rw [hf] at h'; cases h'
     | some er =>
      refine ⟨(⟨0, 0⟩, er), ⟨K1 + 1, fun k hk => ?_⟩, ⟨K2 + 1, fun k hk => ?_⟩, z_in⟩
      ·obtain ⟨m, rfl⟩ : ∃ m, k = m + 1 := ⟨k - 1, by omega⟩
       rw [hpv m (by omega)]
       rcases pval_step t k_ xs e (Za m) val (fun x hx => hK1 x hx m (by omega)) hn (Kp t) with ⟨h', _⟩ | ⟨er', h', h⟩
       ·rw [hf] at h'; cases h'
       ·rw [hf] at h'; cases h'; exact h
      ·obtain ⟨m, rfl⟩ : ∃ m, k = m + 1 := ⟨k - 1, by omega⟩
       rw [hrv m (by omega)]
       rcases rval_step t k_ xs e (Zc m) val (fun x hx => hK2 x hx m (by omega)) hn (Kr t) with ⟨h', _⟩ | ⟨er', h', h⟩
       ·rw [hf] at h'; cases h'
       ·rw [hf] at h'; cases h'; exact h
  ·refine ⟨31, ⟨1, fun k hk => ?_⟩, by have := bt_pos t; omega, ⟨1, ⟨1, fun k hk => ?_⟩, fun h => absurd h (by omega)⟩, fun h => absurd h (by omega)⟩
   ·obtain ⟨m, rfl⟩ : ∃ m, k = m + 1 := ⟨k - 1, by omega⟩
    rw [Zu, if_pos (by simpa using hm)]
    rfl
   ·obtain ⟨m, rfl⟩ : ∃ m, k = m + 1 := ⟨k - 1, by omega⟩
    rw [Zj, if_pos (by rw [shaped_eq]; simpa using hm)]
    rfl
theorem pureCalcValues : PureCalcValues := by
 intro a0 a1 hok _ hb
 have hb' : bt a0 ≤ 1048576 := by
  simp only [bulkVs, bulkV] at hb
  unfold bt
  omega
 obtain ⟨c, ⟨K, hK⟩, _, ⟨p, ⟨K0, hp⟩, _⟩, hv⟩ := term_main a1 1048576 a0 hb' (Nat.le_refl _) hok
 have hc : Z4g a0 = some (c : Int) := lim_of K hK
 have hpc : Z4c a0 = some (p, decide (c ≤ 30)) := lim_of K0 hp
 unfold Z4j Z4f
 rw [twice_eq, Option.bind_some, hpc, hc]
 by_cases h : c ≤ 30
 ·obtain ⟨w, ⟨K1, h1⟩, ⟨K2, h2⟩, _⟩ := hv h
  have e1 : Z4e a0 a1 = some w := lim_of K1 h1
  have e2 : Z4i a0 a1 = some w := lim_of K2 h2
  simp only [Option.bind_some, h, decide_true, Bool.not_true, Bool.false_eq_true, if_false, e1, e2]
  rw [if_neg (by simp only [decide_eq_true_eq]; omega)]
  simp
 ·simp only [Option.bind_some, h, decide_false, Bool.not_false, if_true]
  rw [if_pos (by simp only [decide_eq_true_eq]; omega)]
  simp
end Go.Proofs.YtcnfmehidmjejaaGreatDoorBv
-- squeezed
