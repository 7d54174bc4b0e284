/- The law LoopSteps, over plain values, in parts. No program is in sight. -/
import Derived.Test.YtoomjemboekooaaShLoopSteps
import Derived.Test.YtoomjemboekooaaBv23
/- Loops over a list, said once: an invariant, rounds that go on, rounds that end it all. No program is in sight. -/
namespace Go.Proofs.YtoomjemboekooaaBv
open Go
set_option linter.unusedSimpArgs false
set_option linter.unusedVariables false
theorem rounds {σ β : Type} (F : Nat → σ → Int → Option β) (K : σ → Option β) (n : Nat) (I : Nat → σ → Prop) (E : Option β → Prop)
  (stop : ∀ m s, I n s → F (m + 1) s (n : Int) = K s)
  (step : ∀ s (i : Nat), i < n → I i s → (∃ s', I (i + 1) s' ∧ ∀ m, F (m + 1) s (i : Int) = F m s' ((i + 1 : Nat) : Int)) ∨ ∃ v, E v ∧ ∀ m, F (m + 1) s (i : Int) = v) :
  ∀ (c i : Nat) s, i + c = n → I i s → (∃ s', I n s' ∧ ∀ m, F (m + c + 1) s (i : Int) = K s') ∨ ∃ v, E v ∧ ∀ m, F (m + c + 1) s (i : Int) = v
 | 0, i, s, h, hi => by
  obtain rfl : i = n := by omega
  exact .inl ⟨s, hi, fun m => stop m s hi⟩
 | c + 1, i, s, h, hi => by
  rcases step s i (by omega) hi with ⟨s', h1, h2⟩ | ⟨v, h1, h2⟩
  ·rcases rounds F K n I E stop step c (i + 1) s' (by omega) h1 with ⟨t, a, b⟩ | ⟨v, a, b⟩
   ·exact .inl ⟨t, a, fun m => by rw [show m + (c + 1) + 1 = (m + c + 1) + 1 by omega, h2]; exact b m⟩
   ·exact .inr ⟨v, a, fun m => by rw [show m + (c + 1) + 1 = (m + c + 1) + 1 by omega, h2]; exact b m⟩
  ·exact .inr ⟨v, h1, fun m => h2 (m + (c + 1))⟩
theorem rounds_lim {σ β : Type} (F : Nat → σ → Int → Option β) (K : σ → Option β) (n : Nat) (I : Nat → σ → Prop) (E : Option β → Prop) (s : σ) (h0 : I 0 s)
  (stop : ∀ m s, I n s → F (m + 1) s (n : Int) = K s)
  (step : ∀ s (i : Nat), i < n → I i s → (∃ s', I (i + 1) s' ∧ ∀ m, F (m + 1) s (i : Int) = F m s' ((i + 1 : Nat) : Int)) ∨ ∃ v, E v ∧ ∀ m, F (m + 1) s (i : Int) = v) :
  (∃ s', I n s' ∧ lim (fun k => F k s 0) = K s') ∨ ∃ v, E v ∧ lim (fun k => F k s 0) = v := by
 rcases rounds F K n I E stop step n 0 s (by omega) h0 with ⟨t, a, b⟩ | ⟨v, a, b⟩
 ·exact .inl ⟨t, a, lim_add (n + 1) fun m => b m⟩
 ·exact .inr ⟨v, a, lim_add (n + 1) fun m => b m⟩
/-- rounds that all go on -/
theorem rounds_all {σ β : Type} (F : Nat → σ → Int → Option β) (K : σ → Option β) (n : Nat) (I : Nat → σ → Prop) (s : σ) (h0 : I 0 s)
  (stop : ∀ m s, I n s → F (m + 1) s (n : Int) = K s)
  (step : ∀ s (i : Nat), i < n → I i s → ∃ s', I (i + 1) s' ∧ ∀ m, F (m + 1) s (i : Int) = F m s' ((i + 1 : Nat) : Int)) :
  ∃ s', I n s' ∧ lim (fun k => F k s 0) = K s' := by
 rcases rounds_lim F K n I (fun _ => False) s h0 stop (fun s i a b => .inl (step s i a b)) with h | ⟨_, h, _⟩
 ·exact h
 ·exact h.elim
theorem wi_next {i n : Nat} (h : i < n) (hn : n ≤ 9223372036854775807) : wi ((i : Int) + 1) = ((i + 1 : Nat) : Int) := by
 rw [wi_id (by omega) (by omega)]; omega
theorem lt_pos {i n : Nat} (h : i < n) : decide ((i : Int) < (n : Int)) = true := by simp only [decide_eq_true_eq]; omega
theorem lt_neg (n : Nat) : ¬ decide ((n : Int) < (n : Int)) = true := by simp
theorem take_succ_get {α : Type} {l : List α} {i : Nat} (h : i < l.length) : l.take (i + 1) = l.take i ++ [l[i]] := by
 rw [List.take_add_one, List.getElem?_eq_getElem h]; rfl
theorem take_all {α : Type} (l : List α) : l.take l.length = l := List.take_length
end Go.Proofs.YtoomjemboekooaaBv
/- The check of a loop: which are right. No program is in sight. -/
namespace Go.Proofs.YtoomjemboekooaaBv
open Go
set_option linter.unusedSimpArgs false
set_option linter.unusedVariables false
def idsOf (q : TJLoop) : List Int := q.Tasks.map (·.ID) ++ q.Smalls.map (·.ID) ++ q.Timers.map (·.ID)
def tLt (a b : TJTimer) : Prop := a.At < b.At ∨ (a.At = b.At ∧ a.ID < b.ID)
theorem tLt_trans {a b c : TJTimer} (h1 : tLt a b) (h2 : tLt b c) : tLt a c := by unfold tLt at *; omega
structure Short (q : TJLoop) : Prop where
 l1 : q.Tasks.length ≤ 100
 l2 : q.Smalls.length ≤ 100
 l3 : q.Timers.length ≤ 100
def taskOK (j : TJJob) : Prop := 1 ≤ j.Source ∧ j.Source ≤ 4 ∧ j.Small = false
def smallOK (j : TJJob) : Prop := j.Source = 0 ∧ j.Small = true
def timerOK (q : TJLoop) (t : TJTimer) : Prop := q.Now ≤ t.At ∧ t.At ≤ 1000000000 ∧ 0 ≤ t.Every ∧ t.Every ≤ 1000000000 ∧ 0 ≤ t.Turn ∧ t.Turn ≤ 1000000000
structure LoopOK (q : TJLoop) : Prop where
 short : Short q
 now : 0 ≤ q.Now ∧ q.Now ≤ 1000000000
 next : 0 ≤ q.Next ∧ q.Next ≤ 1000000000
 ids : ∀ n ∈ idsOf q, 0 ≤ n ∧ n < q.Next
 nodup : (idsOf q).Nodup
 tasks : ∀ j ∈ q.Tasks, taskOK j
 smalls : ∀ j ∈ q.Smalls, smallOK j
 timers : ∀ t ∈ q.Timers, timerOK q t
 sorted : q.Timers.Pairwise tLt
/-! ### the numbers -/
theorem num3 (x : List TJJob) (q : TJLoop) (v : Int) (K : List Int → Option (List Int)) (out : List Int) (hl : out.length + x.length ≤ 1000) :
  lim (fun kk => Zg x q v K kk out 0) = K (out ++ x.map (·.ID)) := by
 obtain ⟨s, hs, h⟩ := rounds_all (fun k s i => Zg x q v K k s i) K x.length (fun i s => s = out ++ (x.take i).map (·.ID)) out (by simp)
  (fun m s hs => by rw [Zg, if_neg (lt_neg _)])
  (fun s i hi hs => ⟨out ++ (x.take (i + 1)).map (·.ID), rfl, fun m => by
   have hb : app? 8 s [x[i].ID] = some (out ++ (x.take (i + 1)).map (·.ID)) := by
    rw [hs, appq (by simp; omega), take_succ_get hi, List.map_append, List.append_assoc]; rfl
   rw [Zg, if_pos (lt_pos hi), at_some hi, Option.bind_some, hb, Option.bind_some, wi_next hi (by omega)]⟩)
 rw [take_all] at hs
 rw [← hs]
 exact h
theorem num4 (q : TJLoop) (K : List Int → Option (List Int)) (out : List Int) (hl : out.length + q.Timers.length ≤ 1000) :
  lim (fun kk => Zh q K kk out 0) = K (out ++ q.Timers.map (·.ID)) := by
 obtain ⟨s, hs, h⟩ := rounds_all (fun k s i => Zh q K k s i) K q.Timers.length (fun i s => s = out ++ (q.Timers.take i).map (·.ID)) out (by simp)
  (fun m s hs => by rw [Zh, if_neg (lt_neg _)])
  (fun s i hi hs => ⟨out ++ (q.Timers.take (i + 1)).map (·.ID), rfl, fun m => by
   have hb : app? 8 s [q.Timers[i].ID] = some (out ++ (q.Timers.take (i + 1)).map (·.ID)) := by
    rw [hs, appq (by simp; omega), take_succ_get hi, List.map_append, List.append_assoc]; rfl
   rw [Zh, if_pos (lt_pos hi), at_some hi, Option.bind_some, hb, Option.bind_some, wi_next hi (by omega)]⟩)
 rw [take_all] at hs
 rw [← hs]
 exact h
theorem numbers_eq (q : TJLoop) (h : Short q) : Z1t q = some (idsOf q) := by
 have h1 := h.l1
 have h2 := h.l2
 have h3 := h.l3
 unfold Z1t
 refine lim_add 3 fun m => ?_
 rw [Zs, if_pos (by decide), show at? [q.Tasks, q.Smalls] 0 = some q.Tasks from rfl, Option.bind_some, num3 _ _ _ _ _ (by simp; omega), show wi (0 + 1) = 1 from rfl]
 rw [Zs, if_pos (by decide), show at? [q.Tasks, q.Smalls] 1 = some q.Smalls from rfl, Option.bind_some, num3 _ _ _ _ _ (by simp; omega), show wi (1 + 1) = 2 from rfl]
 rw [Zs, if_neg (by decide), num4 _ _ _ (by simp; omega)]
 rfl
/-! ### a list of numbers, each new -/
def Fresh (N : Int) (S xs : List Int) : Prop := (∀ x ∈ xs, 0 ≤ x ∧ x < N ∧ x ∉ S) ∧ xs.Nodup
theorem fresh_nil (N : Int) (S : List Int) : Fresh N S [] := ⟨fun _ h => (by cases h), List.nodup_nil⟩
theorem fresh_append {N : Int} {S xs ys : List Int} : Fresh N S (xs ++ ys) ↔ Fresh N S xs ∧ Fresh N (S ++ xs) ys := by
 unfold Fresh
 rw [List.nodup_append]
 constructor
 ·rintro ⟨h1, h2, h3, h4⟩
  refine ⟨⟨fun x hx => h1 x (List.mem_append_left _ hx), h2⟩, fun y hy => ?_, h3⟩
  obtain ⟨a, b, c⟩ := h1 y (List.mem_append_right _ hy)
  refine ⟨a, b, fun hm => ?_⟩
  rcases List.mem_append.1 hm with hm | hm
  ·exact c hm
  ·exact h4 y hm y hy rfl
 ·rintro ⟨⟨h1, h2⟩, h3, h4⟩
  refine ⟨fun x hx => ?_, h2, h4, fun a ha b hb e => ?_⟩
  ·rcases List.mem_append.1 hx with hx | hx
   ·exact h1 x hx
   ·obtain ⟨a, b, c⟩ := h3 x hx
    exact ⟨a, b, fun hm => c (List.mem_append_left _ hm)⟩
  ·subst e
   exact (h3 a hb).2.2 (List.mem_append_right _ ha)
theorem fresh_one {N : Int} {S : List Int} {x : Int} : Fresh N S [x] ↔ 0 ≤ x ∧ x < N ∧ x ∉ S := by
 unfold Fresh
 simp
theorem mget_mset {κ ν : Type} [DecidableEq κ] (k : κ) (v : ν) (x : κ) : ∀ l : List (κ × ν), mget (mset l k v) x = if x = k then some v else mget l x
 | [] => by simp only [mset, mget]
 | p :: r => by
  have ih := mget_mset k v x r
  simp only [mset]
  by_cases h : k = p.1
  ·rw [if_pos h]
   simp only [mget]
   by_cases h2 : x = k
   ·rw [if_pos h2, if_pos h2]
   ·rw [if_neg h2, if_neg h2, if_neg (by rw [← h]; exact h2)]
  ·rw [if_neg h]
   simp only [mget]
   by_cases h2 : x = p.1
   ·have h3 : ¬ x = k := by intro e; exact h (by rw [← e]; exact h2)
    rw [if_pos h2, if_neg h3, if_pos h2]
   ·rw [if_neg h2, ih]
    by_cases h3 : x = k
    ·rw [if_pos h3, if_pos h3]
    ·rw [if_neg h3, if_neg h3, if_neg h2]
theorem ids_loop (r : List Int) (q : TJLoop) (hr : r.length ≤ 1000) (hN : 0 ≤ q.Next ∧ q.Next ≤ 1000000000) (K : Unit → Option Int) :
  (Fresh q.Next [] r ∧ lim (fun kk => Z8 r q K kk ([] : List (Int × Int)) r 0) = K ()) ∨ (¬ Fresh q.Next [] r ∧ lim (fun kk => Z8 r q K kk ([] : List (Int × Int)) r 0) = some 3) := by
 rcases rounds_lim (fun k s i => Z8 r q K k s r i) (fun _ => K ()) r.length (fun i s => (∀ d, (mget s d).getD 0 = 1 ↔ d ∈ r.take i) ∧ Fresh q.Next [] (r.take i)) (fun v => v = some 3 ∧ ¬ Fresh q.Next [] r) []
  ⟨fun d => by simp [mget], by simpa using fresh_nil _ _⟩
  (fun m s hs => by rw [Z8, if_neg (lt_neg _)])
  (fun s i hi hs => by
   have hw : wi (q.Next - 1) = q.Next - 1 := wi_id (by omega) (by omega)
   have e : r = r.take i ++ r[i] :: r.drop (i + 1) := by
    rw [← List.drop_eq_getElem_cons hi, List.take_append_drop]
   have hone : Fresh q.Next [] (r.take (i + 1)) ↔ 0 ≤ r[i] ∧ r[i] < q.Next ∧ r[i] ∉ r.take i := by
    rw [take_succ_get hi, fresh_append, List.nil_append, fresh_one]
    exact ⟨fun h => h.2, fun h => ⟨hs.2, h⟩⟩
   have hall : Fresh q.Next [] r → Fresh q.Next [] (r.take (i + 1)) := fun h => by
    rw [← List.take_append_drop (i + 1) r] at h
    exact (fresh_append.1 h).1
   by_cases hc : 0 ≤ r[i] ∧ r[i] < q.Next ∧ r[i] ∉ r.take i
   ·refine .inl ⟨mset s r[i] 1, ⟨fun d => ?_, hone.2 hc⟩, fun m => ?_⟩
    ·rw [mget_mset, take_succ_get hi, List.mem_append, List.mem_singleton]
     by_cases hd : d = r[i]
     ·rw [if_pos hd]; simp [hd]
     ·rw [if_neg hd, hs.1]; simp [hd]
    ·have h1 : ¬ (mget s r[i]).getD 0 = 1 := fun h => hc.2.2 ((hs.1 _).1 h)
     rw [Z8, if_pos (lt_pos hi), at_some hi, Option.bind_some, hw, if_neg, letIn_eq, wi_next hi (by omega)]
     unfold Z1
     simp only [Bool.or_eq_true, Bool.not_eq_true', Bool.and_eq_false_iff, decide_eq_false_iff_not, decide_eq_true_eq]
     omega
   ·refine .inr ⟨some 3, ⟨rfl, fun h => hc (hone.1 (hall h))⟩, fun m => ?_⟩
    rw [Z8, if_pos (lt_pos hi), at_some hi, Option.bind_some, hw, if_pos]
    unfold Z1
    simp only [Bool.or_eq_true, Bool.not_eq_true', Bool.and_eq_false_iff, decide_eq_false_iff_not, decide_eq_true_eq]
    rw [hs.1]
    by_cases hm : r[i] ∈ r.take i
    ·exact .inr hm
    ·left
     have : ¬ (0 ≤ r[i] ∧ r[i] < q.Next) := fun h => hc ⟨h.1, h.2, hm⟩
     omega) with ⟨s, ⟨_, hf⟩, h⟩ | ⟨v, ⟨rfl, hf⟩, h⟩
 ·rw [take_all] at hf
  exact .inl ⟨hf, h⟩
 ·exact .inr ⟨hf, h⟩
/-! ### tasks and small ones -/
theorem tasks_eq (l : List TJJob) (hl : l.length ≤ 1000) : ∃ b, Z1e l = some b ∧ (b = false ↔ ∀ j ∈ l, taskOK j) := by
 unfold Z1e Z2c
 rcases rounds_lim (fun k (_ : Unit) i => Zi l (fun _ => some (-1)) k i) (fun _ => some (-1)) l.length (fun i _ => ∀ j ∈ l.take i, taskOK j) (fun v => ∃ i : Nat, v = some (i : Int) ∧ ¬ ∀ j ∈ l, taskOK j) () (fun _ h => by simp at h)
  (fun m s hs => by rw [Zi, if_neg (lt_neg _)])
  (fun s i hi hs => by
   by_cases hc : taskOK l[i]
   ·refine .inl ⟨(), fun j hj => ?_, fun m => ?_⟩
    ·rw [take_succ_get hi, List.mem_append, List.mem_singleton] at hj
     rcases hj with hj | rfl
     ·exact hs j hj
     ·exact hc
    ·rw [Zi, if_pos (lt_pos hi), at_some hi, Option.bind_some, if_neg, wi_next hi (by omega)]
     obtain ⟨c1, c2, c3⟩ := hc
     unfold Z15 Z1
     simp [c1, c2, c3]
   ·refine .inr ⟨some i, ⟨i, rfl, fun h => hc (h _ (List.getElem_mem hi))⟩, fun m => ?_⟩
    rw [Zi, if_pos (lt_pos hi), at_some hi, Option.bind_some, if_pos]
    unfold Z15 Z1
    unfold taskOK at hc
    cases h : l[i].Small with
    | true => rfl
    | false =>
     rw [h] at hc
     simp only [and_true] at hc
     simp only [Bool.false_or, Bool.not_eq_true', Bool.and_eq_false_iff, decide_eq_false_iff_not]
     omega) with ⟨s, hf, h⟩ | ⟨v, ⟨i, rfl, hf⟩, h⟩
 ·rw [take_all] at hf
  exact ⟨false, by rw [h]; rfl, fun _ => hf, fun _ => rfl⟩
 ·exact ⟨true, by rw [h]; simp, fun h => (by cases h), fun h => absurd h hf⟩
theorem smalls_eq (l : List TJJob) (hl : l.length ≤ 1000) : ∃ b, Z1f l = some b ∧ (b = false ↔ ∀ j ∈ l, smallOK j) := by
 unfold Z1f Z2d
 rcases rounds_lim (fun k (_ : Unit) i => Zj l (fun _ => some (-1)) k i) (fun _ => some (-1)) l.length (fun i _ => ∀ j ∈ l.take i, smallOK j) (fun v => ∃ i : Nat, v = some (i : Int) ∧ ¬ ∀ j ∈ l, smallOK j) () (fun _ h => by simp at h)
  (fun m s hs => by rw [Zj, if_neg (lt_neg _)])
  (fun s i hi hs => by
   by_cases hc : smallOK l[i]
   ·refine .inl ⟨(), fun j hj => ?_, fun m => ?_⟩
    ·rw [take_succ_get hi, List.mem_append, List.mem_singleton] at hj
     rcases hj with hj | rfl
     ·exact hs j hj
     ·exact hc
    ·rw [Zj, if_pos (lt_pos hi), at_some hi, Option.bind_some, if_neg, wi_next hi (by omega)]
     obtain ⟨c1, c2⟩ := hc
     unfold Z16
     simp [c1, c2]
   ·refine .inr ⟨some i, ⟨i, rfl, fun h => hc (h _ (List.getElem_mem hi))⟩, fun m => ?_⟩
    rw [Zj, if_pos (lt_pos hi), at_some hi, Option.bind_some, if_pos]
    unfold Z16
    unfold smallOK at hc
    cases h : l[i].Small with
    | false => rfl
    | true =>
     rw [h] at hc
     simp only [and_true] at hc
     simp [hc]) with ⟨s, hf, h⟩ | ⟨v, ⟨i, rfl, hf⟩, h⟩
 ·rw [take_all] at hf
  exact ⟨false, by rw [h]; rfl, fun _ => hf, fun _ => rfl⟩
 ·exact ⟨true, by rw [h]; simp, fun h => (by cases h), fun h => absurd h hf⟩
/-! ### timers -/
theorem compare_eq (x y : Int) : Z7 x y = if x < y then -1 else if y < x then 1 else 0 := by
 unfold Z7 Z17
 simp
theorem or_two (x y : Int) : Z1u [x, y] = some (if x ≠ 0 then x else y) := by
 unfold Z1u
 refine lim_add 3 fun k => ?_
 have st : ∀ (m : Nat) (i v : Int), i < 2 → at? [x, y] i = some v → Zb [x, y] (fun _ => some 0) (m + 1) i = if v ≠ 0 then some v else Zb [x, y] (fun _ => some 0) m (wi (i + 1)) := by
  intro m i v hi hv
  rw [Zb, if_pos (by simp; omega), hv, Option.bind_some]
  by_cases h : v = 0 <;> simp [h]
 rw [st (k + 2) 0 x (by decide) rfl, show wi (0 + 1) = 1 from rfl, st (k + 1) 1 y (by decide) rfl, show wi (1 + 1) = 2 from rfl,
  show Zb [x, y] (fun _ => some 0) (k + 1) 2 = some 0 from by rw [Zb, if_neg (by simp)]]
 by_cases h1 : x = 0
 ·by_cases h2 : y = 0 <;> simp [h1, h2]
 ·simp [h1]
theorem before_eq (a b : TJTimer) : ∃ c, Zk a b = some c ∧ (c < 0 ↔ tLt a b) ∧ (c = 0 ↔ a.At = b.At ∧ a.ID = b.ID) := by
 unfold Zk tLt
 rw [or_two, compare_eq, compare_eq, Option.bind_some]
 refine ⟨_, rfl, ?_⟩
 by_cases h1 : a.At < b.At
 ·simp [h1]; omega
 ·by_cases h2 : b.At < a.At
  ·simp [h1, h2]; omega
  ·have : a.At = b.At := by omega
   by_cases h3 : a.ID < b.ID
   ·simp [this, h3]; omega
   ·by_cases h4 : b.ID < a.ID
    ·simp [this, h3, h4]; omega
    ·simp [this, h3, h4]; omega
theorem timers_loop (q : TJLoop) (hl : q.Timers.length ≤ 1000) (K : Unit → Option Int) :
  (((∀ t ∈ q.Timers, timerOK q t) ∧ q.Timers.Pairwise tLt) ∧ lim (fun kk => Z3 q K kk 0) = K ()) ∨ (¬ ((∀ t ∈ q.Timers, timerOK q t) ∧ q.Timers.Pairwise tLt) ∧ lim (fun kk => Z3 q K kk 0) = some 3) := by
 have := hl
 rcases rounds_lim (fun k (_ : Unit) i => Z3 q K k i) (fun _ => K ()) q.Timers.length (fun i _ => (∀ t ∈ q.Timers.take i, timerOK q t) ∧ (q.Timers.take i).Pairwise tLt) (fun v => v = some 3 ∧ ¬ ((∀ t ∈ q.Timers, timerOK q t) ∧ q.Timers.Pairwise tLt)) ()
  ⟨fun _ h => by simp at h, by simp⟩
  (fun m s hs => by rw [Z3, if_neg (lt_neg _)])
  (fun s i hi hs => by
   by_cases hc : timerOK q q.Timers[i]
   ·have hn : ∀ m, Z3 q K (m + 1) (i : Int) = if decide (0 < (i : Int)) then
      (at? q.Timers (wi ((i : Int) - 1))).bind fun x_2 => (Zk x_2 q.Timers[i]).bind fun r_3 => Zl (i : Int) q (Z3 q K m) K (decide (0 ≤ r_3))
      else Zl (i : Int) q (Z3 q K m) K false := fun m => by
     rw [Z3, if_pos (lt_pos hi), at_some hi, Option.bind_some, if_neg]
     obtain ⟨c1, c2, c3, c4, c5, c6⟩ := hc
     unfold Z1
     simp [c1, c2, c3, c4, c5, c6]
    have hf : ∀ t ∈ q.Timers.take (i + 1), timerOK q t := fun t ht => by
     rw [take_succ_get hi, List.mem_append, List.mem_singleton] at ht
     rcases ht with ht | rfl
     ·exact hs.1 t ht
     ·exact hc
    by_cases h0 : 0 < i
    ·have hp : i - 1 < q.Timers.length := by omega
     obtain ⟨c, e1, e2, _⟩ := before_eq q.Timers[i - 1] q.Timers[i]
     have hat : at? q.Timers (wi ((i : Int) - 1)) = some q.Timers[i - 1] := by
      rw [wi_id (by omega) (by omega), show (i : Int) - 1 = ((i - 1 : Nat) : Int) by omega, at_some hp]
     by_cases hlt : tLt q.Timers[i - 1] q.Timers[i]
     ·refine .inl ⟨(), ⟨hf, ?_⟩, fun m => ?_⟩
      ·rw [take_succ_get hi, List.pairwise_append]
       refine ⟨hs.2, by simp, fun a ha b hb => ?_⟩
       rw [List.mem_singleton] at hb
       subst hb
       obtain ⟨j, hj, rfl⟩ := List.mem_iff_getElem.1 ha
       rw [List.length_take] at hj
       rw [List.getElem_take]
       by_cases e : j = i - 1
       ·subst e; exact hlt
       ·have hpw := List.pairwise_iff_getElem.1 hs.2 j (i - 1) (by rw [List.length_take]; omega) (by rw [List.length_take]; omega) (by omega)
        rw [List.getElem_take, List.getElem_take] at hpw
        exact tLt_trans hpw hlt
      ·rw [hn, if_pos (by simp only [decide_eq_true_eq]; omega), hat, Option.bind_some, e1, Option.bind_some]
       unfold Zl
       rw [if_neg (by have := e2.2 hlt; simp only [decide_eq_true_eq]; omega), wi_next hi (by omega)]
     ·refine .inr ⟨some 3, ⟨rfl, fun h => hlt (List.pairwise_iff_getElem.1 h.2 (i - 1) i hp hi (by omega))⟩, fun m => ?_⟩
      rw [hn, if_pos (by simp only [decide_eq_true_eq]; omega), hat, Option.bind_some, e1, Option.bind_some]
      unfold Zl
      rw [if_pos]
      have : ¬ c < 0 := fun h => hlt (e2.1 h)
      simp only [decide_eq_true_eq]; omega
    ·obtain rfl : i = 0 := by omega
     refine .inl ⟨(), ⟨hf, ?_⟩, fun m => ?_⟩
     ·rw [take_succ_get hi]; simp
     ·rw [hn, if_neg (by simp)]
      unfold Zl
      rw [if_neg (by simp), wi_next hi (by omega)]
   ·refine .inr ⟨some 3, ⟨rfl, fun h => hc (h.1 _ (List.getElem_mem hi))⟩, fun m => ?_⟩
    rw [Z3, if_pos (lt_pos hi), at_some hi, Option.bind_some, if_pos]
    ·unfold Zl
     rw [if_pos rfl]
    ·unfold timerOK at hc
     unfold Z1
     simp only [Bool.or_eq_true, Bool.not_eq_true', Bool.and_eq_false_iff, decide_eq_false_iff_not]
     omega) with ⟨s, hf, h⟩ | ⟨v, ⟨rfl, hf⟩, h⟩
 ·rw [take_all] at hf
  exact .inl ⟨hf, h⟩
 ·exact .inr ⟨hf, h⟩
theorem fresh_ids {q : TJLoop} : Fresh q.Next [] (idsOf q) ↔ (∀ n ∈ idsOf q, 0 ≤ n ∧ n < q.Next) ∧ (idsOf q).Nodup := by
 unfold Fresh
 simp
theorem check_eq (q : TJLoop) : ∃ c, Zz q = some c ∧ (¬ Short q → c = 2) ∧ (Short q → LoopOK q → c = 0) ∧ (Short q → ¬ LoopOK q → c = 3) := by
 unfold Zz
 rw [letIn_eq]
 by_cases hs : Short q
 ·have s1 := hs.l1
  have s2 := hs.l2
  have s3 := hs.l3
  have hmx : ∀ x y : Int, mx x y = max x y := fun x y => by unfold mx; omega
  rw [if_neg (by rw [hmx, hmx]; simp only [decide_eq_true_eq]; omega)]
  by_cases hn : (0 ≤ q.Now ∧ q.Now ≤ 1000000000) ∧ 0 ≤ q.Next ∧ q.Next ≤ 1000000000
  ·have hlen : (idsOf q).length ≤ 1000 := by unfold idsOf; simp; omega
   obtain ⟨b1, e1, f1⟩ := tasks_eq q.Tasks (by omega)
   obtain ⟨b2, e2, f2⟩ := smalls_eq q.Smalls (by omega)
   rw [if_neg (by obtain ⟨⟨a, b⟩, c, d⟩ := hn; unfold Z1; simp [a, b, c, d]), numbers_eq q hs, Option.bind_some]
   rcases ids_loop (idsOf q) q hlen hn.2 (fun (_ : Unit) =>
     (Z1e q.Tasks).bind fun r_1 =>
     if r_1 then
      some 3
     else
      (Z1f q.Smalls).bind fun r_2 =>
      if r_2 then
       some 3
      else
       lim fun kk => Z3 q (fun (_ : Unit) =>
         some 0) kk 0) with ⟨hf, h⟩ | ⟨hf, h⟩
   ·rw [h, e1, Option.bind_some, e2, Option.bind_some]
    cases b1 with
    | true =>
     refine ⟨3, rfl, fun h => absurd hs h, fun _ h => ?_, fun _ _ => rfl⟩
     exact absurd (f1.2 h.tasks) (by simp)
    | false =>
     cases b2 with
     | true =>
      refine ⟨3, rfl, fun h => absurd hs h, fun _ h => ?_, fun _ _ => rfl⟩
      exact absurd (f2.2 h.smalls) (by simp)
     | false =>
      rcases timers_loop q (by omega) (fun _ => some 0) with ⟨ht, h2⟩ | ⟨ht, h2⟩
      ·refine ⟨0, by rw [if_neg (by simp), if_neg (by simp), h2], fun h => absurd hs h, fun _ _ => rfl, fun _ h => absurd ?_ h⟩
       have hi := fresh_ids.1 hf
       exact ⟨hs, hn.1, hn.2, hi.1, hi.2, f1.1 rfl, f2.1 rfl, ht.1, ht.2⟩
      ·exact ⟨3, by rw [if_neg (by simp), if_neg (by simp), h2], fun h => absurd hs h, fun _ h => absurd ⟨h.timers, h.sorted⟩ ht, fun _ _ => rfl⟩
   ·exact ⟨3, h, fun h => absurd hs h, fun _ h => absurd (fresh_ids.2 ⟨h.ids, h.nodup⟩) hf, fun _ _ => rfl⟩
  ·refine ⟨3, ?_, fun h => absurd hs h, fun _ h => absurd ⟨h.now, h.next⟩ hn, fun _ _ => rfl⟩
   rw [if_pos]
   unfold Z1
   simp only [Bool.or_eq_true, Bool.not_eq_true', Bool.and_eq_false_iff, decide_eq_false_iff_not]
   omega
 ·refine ⟨2, ?_, fun _ => rfl, fun h => absurd h hs, fun h => absurd h hs⟩
  rw [if_pos]
  have hmx : ∀ x y : Int, mx x y = max x y := fun x y => by unfold mx; omega
  rw [hmx, hmx]
  simp only [decide_eq_true_eq]
  rcases Nat.lt_or_ge 100 q.Tasks.length with h | h
  ·omega
  ·rcases Nat.lt_or_ge 100 q.Smalls.length with h2 | h2
   ·omega
   ·rcases Nat.lt_or_ge 100 q.Timers.length with h3 | h3
    ·omega
    ·exact absurd ⟨h, h2, h3⟩ hs
end Go.Proofs.YtoomjemboekooaaBv
/- The document's check of a loop: it is the program's. No program is in sight. -/
namespace Go.Proofs.YtoomjemboekooaaBv
open Go
set_option linter.unusedSimpArgs false
set_option linter.unusedVariables false
theorem between_iff (n a b : Int) : Z2 n a b = true ↔ a ≤ n ∧ n ≤ b := by unfold Z2; simp
theorem contains_eq (l : List Int) (v : Int) (hl : l.length ≤ 1000) : ∃ b, Z20 l v = some b ∧ (b = true ↔ v ∈ l) := by
 unfold Z20 Z2i
 rcases rounds_lim (fun k (_ : Unit) i => Zo l v (fun _ => some (-1)) k i) (fun _ => some (-1)) l.length (fun i _ => v ∉ l.take i) (fun r => ∃ i : Nat, r = some (i : Int) ∧ v ∈ l) () (by simp)
  (fun m s hs => by rw [Zo, if_neg (lt_neg _)])
  (fun s i hi hs => by
   by_cases hc : v = l[i]
   ·refine .inr ⟨some i, ⟨i, rfl, hc ▸ List.getElem_mem hi⟩, fun m => ?_⟩
    rw [Zo, if_pos (lt_pos hi), at_some hi, Option.bind_some, if_pos (by simpa using hc)]
   ·refine .inl ⟨(), ?_, fun m => ?_⟩
    ·rw [take_succ_get hi, List.mem_append, List.mem_singleton]
     exact fun h => h.elim hs hc
    ·rw [Zo, if_pos (lt_pos hi), at_some hi, Option.bind_some, if_neg (by simpa using hc), wi_next hi (by omega)]) with ⟨s, hf, h⟩ | ⟨r, ⟨i, rfl, hf⟩, h⟩
 ·rw [take_all] at hf
  exact ⟨false, by rw [h]; rfl, fun h => (by cases h), fun h => absurd h hf⟩
 ·exact ⟨true, by rw [h]; simp, fun _ => hf, fun _ => rfl⟩
theorem number_eq (n : Int) (v : Bool) (q : TJLoop) (S : List Int) (hl : S.length ≤ 999) : ∃ b, Z19 n v q.Now q.Next q.Tasks q.Smalls q.Timers S = some (b, S ++ [n]) ∧ (b = true ↔ v = true ∧ Fresh q.Next S [n]) := by
 have j : ∀ b, Z1o n b S = some (b, S ++ [n]) := fun b => by
  unfold Z1o
  rw [appq (by simp; omega)]; rfl
 unfold Z19
 rw [fresh_one]
 by_cases h : v = true ∧ 0 ≤ n ∧ n < q.Next
 ·obtain ⟨b, e, f⟩ := contains_eq S n (by omega)
  refine ⟨!b, by rw [if_pos (by simp [h]), e, Option.bind_some, j], ?_⟩
  cases b with
  | true => simp; intro _ _ _; exact f.1 rfl
  | false => simp only [Bool.not_false, true_iff]; exact ⟨h.1, h.2.1, h.2.2, fun hm => by have := f.2 hm; cases this⟩
 ·refine ⟨false, by rw [if_neg (by simp only [Bool.and_eq_true, decide_eq_true_eq]; intro hh; exact h ⟨hh.1.1, hh.1.2, hh.2⟩), j], ?_⟩
  simp only [Bool.false_eq_true, false_iff]
  exact fun hh => h ⟨hh.1, hh.2.1, hh.2.2.1⟩
theorem right0 (q : TJLoop) (hl : q.Tasks.length ≤ 100) (K : Bool → List Int → Option Int) (r : Bool) : ∃ b, lim (fun kk => Zp q K kk r ([] : List Int) 0) = K b (q.Tasks.map (·.ID)) ∧ (b = true ↔ r = true ∧ Fresh q.Next [] (q.Tasks.map (·.ID)) ∧ ∀ j ∈ q.Tasks, taskOK j) := by
 obtain ⟨s, hs, h⟩ := rounds_all (fun k (s : Bool × List Int) i => Zp q K k s.1 s.2 i) (fun s => K s.1 s.2) q.Tasks.length (fun i s => s.2 = (q.Tasks.take i).map (·.ID) ∧ (s.1 = true ↔ r = true ∧ Fresh q.Next [] ((q.Tasks.take i).map (·.ID)) ∧ ∀ j ∈ q.Tasks.take i, taskOK j)) (r, [])
  ⟨by simp, by simp [fresh_nil]⟩
  (fun m s hs => by rw [Zp, if_neg (lt_neg _)])
  (fun s i hi hs => by
   obtain ⟨b, e, f⟩ := number_eq q.Tasks[i].ID s.1 q s.2 (by rw [hs.1]; simp; omega)
   refine ⟨((b && (Z2 q.Tasks[i].Source 1 4)) && (!q.Tasks[i].Small), s.2 ++ [q.Tasks[i].ID]), ⟨?_, ?_⟩, fun m => ?_⟩
   ·rw [hs.1, take_succ_get hi, List.map_append]; rfl
   ·rw [take_succ_get hi, List.map_append, fresh_append, List.nil_append, Bool.and_eq_true, Bool.and_eq_true, between_iff, f, hs.2, hs.1, List.forall_mem_append]
    have : (∀ x ∈ [q.Tasks[i]], taskOK x) ↔ taskOK q.Tasks[i] := by simp
    rw [this]
    unfold taskOK
    simp only [Bool.not_eq_true', List.map_cons, List.map_nil]
    constructor
    ·rintro ⟨⟨⟨⟨a, b, c⟩, d⟩, e⟩, f⟩; exact ⟨a, ⟨b, d⟩, c, e.1, e.2, f⟩
    ·rintro ⟨a, ⟨b, d⟩, c, e1, e2, f⟩; exact ⟨⟨⟨⟨a, b, c⟩, d⟩, e1, e2⟩, f⟩
   ·rw [Zp, if_pos (lt_pos hi), at_some hi, Option.bind_some, e, Option.bind_some, wi_next hi (by omega)])
 rw [take_all] at hs
 refine ⟨s.1, ?_, hs.2⟩
 rw [← hs.1]
 exact h
theorem right1 (q : TJLoop) (hl : q.Smalls.length ≤ 100) (K : Bool → List Int → Option Int) (r : Bool) (S : List Int) (hS : S.length ≤ 800) : ∃ b, lim (fun kk => Zc q K kk r S 0) = K b (S ++ q.Smalls.map (·.ID)) ∧ (b = true ↔ r = true ∧ Fresh q.Next S (q.Smalls.map (·.ID)) ∧ ∀ j ∈ q.Smalls, smallOK j) := by
 obtain ⟨s, hs, h⟩ := rounds_all (fun k (s : Bool × List Int) i => Zc q K k s.1 s.2 i) (fun s => K s.1 s.2) q.Smalls.length (fun i s => s.2 = S ++ (q.Smalls.take i).map (·.ID) ∧ (s.1 = true ↔ r = true ∧ Fresh q.Next S ((q.Smalls.take i).map (·.ID)) ∧ ∀ j ∈ q.Smalls.take i, smallOK j)) (r, S)
  ⟨by simp, by simp [fresh_nil]⟩
  (fun m s hs => by rw [Zc, if_neg (lt_neg _)])
  (fun s i hi hs => by
   obtain ⟨b, e, f⟩ := number_eq q.Smalls[i].ID s.1 q s.2 (by rw [hs.1]; simp; omega)
   refine ⟨((b && (decide (q.Smalls[i].Source = 0))) && q.Smalls[i].Small, s.2 ++ [q.Smalls[i].ID]), ⟨?_, ?_⟩, fun m => ?_⟩
   ·rw [hs.1, take_succ_get hi, List.map_append, List.append_assoc]; rfl
   ·rw [take_succ_get hi, List.map_append, fresh_append, Bool.and_eq_true, Bool.and_eq_true, decide_eq_true_iff, f, hs.2, hs.1, List.forall_mem_append]
    have : (∀ x ∈ [q.Smalls[i]], smallOK x) ↔ smallOK q.Smalls[i] := by simp
    rw [this]
    unfold smallOK
    simp only [List.map_cons, List.map_nil]
    constructor
    ·rintro ⟨⟨⟨⟨a, b, c⟩, d⟩, e⟩, f⟩; exact ⟨a, ⟨b, d⟩, c, e, f⟩
    ·rintro ⟨a, ⟨b, d⟩, c, e, f⟩; exact ⟨⟨⟨⟨a, b, c⟩, d⟩, e⟩, f⟩
   ·rw [Zc, if_pos (lt_pos hi), at_some hi, Option.bind_some, e, Option.bind_some, wi_next hi (by omega)])
 rw [take_all] at hs
 refine ⟨s.1, ?_, hs.2⟩
 rw [← hs.1]
 exact h
theorem right5 (l : List TJTimer) (x : TJTimer) (q : TJLoop) (v : Int) (K : Bool → List Int → Option Int) (r : Bool) (S : List Int) (hl : l.length ≤ 1000) : ∃ b, lim (fun kk => Zq l x q v K kk r S 0) = K b S ∧ (b = true ↔ r = true ∧ ∀ t ∈ l, tLt t x) := by
 obtain ⟨s, hs, h⟩ := rounds_all (fun k (s : Bool) i => Zq l x q v K k s S i) (fun s => K s S) l.length (fun i s => s = true ↔ r = true ∧ ∀ t ∈ l.take i, tLt t x) r
  (by simp)
  (fun m s hs => by rw [Zq, if_neg (lt_neg _)])
  (fun s i hi hs => by
   refine ⟨(s && ((decide (l[i].At < x.At)) || ((decide (l[i].At = x.At)) && (decide (l[i].ID < x.ID))))), ?_, fun m => ?_⟩
   ·rw [take_succ_get hi, List.forall_mem_append, Bool.and_eq_true, hs, and_assoc]
    have : (∀ t ∈ [l[i]], tLt t x) ↔ tLt l[i] x := by simp
    rw [this]
    unfold tLt
    simp
   ·rw [Zq, if_pos (lt_pos hi), at_some hi, Option.bind_some, wi_next hi (by omega)])
 rw [take_all] at hs
 exact ⟨s, h, hs⟩
theorem right4 (q : TJLoop) (hl : q.Timers.length ≤ 100) (K : Bool → Option Int) (r : Bool) (S : List Int) (hS : S.length ≤ 800) : ∃ b, lim (fun kk => Z6 q K kk r S 0) = K b ∧ (b = true ↔ r = true ∧ Fresh q.Next S (q.Timers.map (·.ID)) ∧ (∀ t ∈ q.Timers, timerOK q t) ∧ q.Timers.Pairwise tLt) := by
 obtain ⟨s, hs, h⟩ := rounds_all (fun k (s : Bool × List Int) i => Z6 q K k s.1 s.2 i) (fun s => K s.1) q.Timers.length (fun i s => s.2 = S ++ (q.Timers.take i).map (·.ID) ∧ (s.1 = true ↔ r = true ∧ Fresh q.Next S ((q.Timers.take i).map (·.ID)) ∧ (∀ t ∈ q.Timers.take i, timerOK q t) ∧ (q.Timers.take i).Pairwise tLt)) (r, S)
  ⟨by simp, by simp [fresh_nil]⟩
  (fun m s hs => by rw [Z6, if_neg (lt_neg _)])
  (fun s i hi hs => by
   obtain ⟨b, e, f⟩ := number_eq q.Timers[i].ID s.1 q s.2 (by rw [hs.1]; simp; omega)
   have hr5 := fun K' => right5 (q.Timers.take i) q.Timers[i] q (i : Int) K' ((((b && (decide (q.Now ≤ q.Timers[i].At))) && (decide (q.Timers[i].At ≤ 1000000000))) && (Z2 q.Timers[i].Every 0 1000000000)) && (Z2 q.Timers[i].Turn 0 1000000000)) (s.2 ++ [q.Timers[i].ID]) (by simp; omega)
   have hb : ∃ c : Bool, c = true ↔ ((((b && (decide (q.Now ≤ q.Timers[i].At))) && (decide (q.Timers[i].At ≤ 1000000000))) && (Z2 q.Timers[i].Every 0 1000000000)) && (Z2 q.Timers[i].Turn 0 1000000000)) = true ∧ ∀ t ∈ q.Timers.take i, tLt t q.Timers[i] := by
    obtain ⟨c, _, hc⟩ := hr5 fun _ _ => none
    exact ⟨c, hc⟩
   obtain ⟨c, hc⟩ := hb
   refine ⟨(c, s.2 ++ [q.Timers[i].ID]), ⟨?_, ?_⟩, fun m => ?_⟩
   ·rw [hs.1, take_succ_get hi, List.map_append, List.append_assoc]; rfl
   ·show c = true ↔ _
    rw [hc, take_succ_get hi, List.map_append, fresh_append, List.forall_mem_append, List.pairwise_append]
    simp only [Bool.and_eq_true, between_iff, decide_eq_true_iff]
    rw [f, hs.2, hs.1]
    have : (∀ x ∈ [q.Timers[i]], timerOK q x) ↔ timerOK q q.Timers[i] := by simp
    rw [this]
    have h2 : (∀ a ∈ q.Timers.take i, ∀ b ∈ [q.Timers[i]], tLt a b) ↔ ∀ a ∈ q.Timers.take i, tLt a q.Timers[i] := by simp
    rw [h2]
    unfold timerOK
    simp only [List.map_cons, List.map_nil]
    constructor
    ·rintro ⟨⟨⟨⟨⟨⟨⟨a, b, c, d⟩, e⟩, f⟩, g⟩, h1, h2⟩, i1, i2⟩, j⟩
     exact ⟨a, ⟨b, e⟩, ⟨c, f, g, h1, h2, i1, i2⟩, d, List.pairwise_singleton _ _, j⟩
    ·rintro ⟨a, ⟨b, e⟩, ⟨c, f, g, h1, h2, i1, i2⟩, d, _, j⟩
     exact ⟨⟨⟨⟨⟨⟨⟨a, b, c, d⟩, e⟩, f⟩, g⟩, h1, h2⟩, i1, i2⟩, j⟩
   ·rw [Z6, if_pos (lt_pos hi), at_some hi, Option.bind_some, e, Option.bind_some, sub_take (by omega), Option.bind_some]
    obtain ⟨c', h1, h2⟩ := hr5 (fun (right7 : Bool) (number6 : (List Int)) => (Z6 q K m) right7 number6 (wi ((i : Int) + 1)))
    have : c' = c := by rw [Bool.eq_iff_iff, h2, hc]
    rw [h1, this, wi_next hi (by omega)])
 rw [take_all] at hs
 exact ⟨s.1, h, hs.2⟩
theorem right_eq (q : TJLoop) : ∃ c, Z22 q = some c ∧ (¬ Short q → c = 2) ∧ (Short q → LoopOK q → c = 0) ∧ (Short q → ¬ LoopOK q → c = 3) := by
 unfold Z22
 by_cases hs : Short q
 ·have s1 := hs.l1
  have s2 := hs.l2
  have s3 := hs.l3
  rw [if_neg (by simp only [Bool.or_eq_true, decide_eq_true_eq]; omega)]
  obtain ⟨b1, e1, f1⟩ := right0 q s1 (fun (right1 : Bool) (number1 : (List Int)) =>
    lim fun kk2 => Zc q (fun (right3 : Bool) (number3 : (List Int)) =>
      lim fun kk1 => Z6 q (fun (right5 : Bool) =>
        if (!right5) then
         some 3
        else
         some 0) kk1 right3 number3 0) kk2 right1 number1 0) ((Z2 q.Now 0 1000000000) && (Z2 q.Next 0 1000000000))
  obtain ⟨b2, e2, f2⟩ := right1 q s2 (fun (right3 : Bool) (number3 : (List Int)) =>
      lim fun kk1 => Z6 q (fun (right5 : Bool) =>
        if (!right5) then
         some 3
        else
         some 0) kk1 right3 number3 0) b1 (q.Tasks.map (·.ID)) (by simp; omega)
  obtain ⟨b3, e3, f3⟩ := right4 q s3 (fun (right5 : Bool) =>
        if (!right5) then
         some 3
        else
         some 0) b2 (q.Tasks.map (·.ID) ++ q.Smalls.map (·.ID)) (by simp; omega)
  rw [e1, e2, e3]
  have hb : b3 = true ↔ LoopOK q := by
   rw [f3, f2, f1, Bool.and_eq_true, between_iff, between_iff]
   constructor
   ·rintro ⟨⟨⟨⟨a, b⟩, c, d⟩, e, f⟩, g, h, i⟩
    have hf : Fresh q.Next [] (idsOf q) := fresh_append.2 ⟨fresh_append.2 ⟨c, e⟩, g⟩
    have hi := fresh_ids.1 hf
    exact ⟨hs, a, b, hi.1, hi.2, d, f, h, i⟩
   ·intro h
    have hf : Fresh q.Next [] (idsOf q) := fresh_ids.2 ⟨h.ids, h.nodup⟩
    obtain ⟨h1, h3⟩ := fresh_append.1 hf
    obtain ⟨h1, h2⟩ := fresh_append.1 h1
    exact ⟨⟨⟨⟨h.now, h.next⟩, h1, h.tasks⟩, h2, h.smalls⟩, h3, h.timers, h.sorted⟩
  cases b3 with
  | true => exact ⟨0, by simp, fun h => absurd hs h, fun _ _ => rfl, fun _ h => absurd (hb.1 rfl) h⟩
  | false => exact ⟨3, by simp, fun h => absurd hs h, fun _ h => absurd (hb.2 h) (by simp), fun _ _ => rfl⟩
 ·refine ⟨2, ?_, fun _ => rfl, fun h => absurd h hs, fun h => absurd h hs⟩
  rw [if_pos]
  simp only [Bool.or_eq_true, decide_eq_true_eq]
  rcases Nat.lt_or_ge 100 q.Tasks.length with h | h
  ·omega
  ·rcases Nat.lt_or_ge 100 q.Smalls.length with h2 | h2
   ·omega
   ·rcases Nat.lt_or_ge 100 q.Timers.length with h3 | h3
    ·omega
    ·exact absurd ⟨h, h2, h3⟩ hs
end Go.Proofs.YtoomjemboekooaaBv
/- What is asked of a loop: the program's answer is the document's, and a loop stays right. No program is in sight. -/
namespace Go.Proofs.YtoomjemboekooaaBv
open Go
set_option linter.unusedSimpArgs false
set_option linter.unusedVariables false
/-- where a timer belongs -/
def pla (l : List TJTimer) (t : TJTimer) : Nat → Prop := fun p => p ≤ l.length ∧ (∀ (i : Nat) (h : i < l.length), i < p → ¬ tLt t l[i]) ∧ ∀ h : p < l.length, tLt t l[p]
theorem pla_uniq {l : List TJTimer} {t : TJTimer} {p q : Nat} (hp : pla l t p) (hq : pla l t q) : p = q := by
 rcases Nat.lt_trichotomy p q with h | h | h
 ·exact absurd (hp.2.2 (by have := hq.1; omega)) (hq.2.1 p (by have := hq.1; omega) h)
 ·exact h
 ·exact absurd (hq.2.2 (by have := hp.1; omega)) (hp.2.1 q (by have := hp.1; omega) h)
open Classical in
theorem pla_ex (t : TJTimer) : ∀ l : List TJTimer, ∃ p, pla l t p
 | [] => ⟨0, Nat.le_refl _, fun i h => by simp at h, fun h => by simp at h⟩
 | x :: r => by
  by_cases h : tLt t x
  ·exact ⟨0, Nat.zero_le _, fun i _ h => by omega, fun _ => h⟩
  ·obtain ⟨p, a, b, c⟩ := pla_ex t r
   refine ⟨p + 1, by simp; omega, fun i hi hp => ?_, fun h => ?_⟩
   ·cases i with
    | zero => exact h
    | succ i => simpa using b i (by simpa using hi) (by omega)
   ·simpa using c (by simpa using h)
theorem tLt_dec (t s : TJTimer) : ((decide (t.At < s.At)) || ((decide (s.At = t.At)) && (decide (t.ID < s.ID)))) = true ↔ tLt t s := by
 unfold tLt
 simp
 omega
theorem placed_eq (l : List TJTimer) (t : TJTimer) (hl : l.length ≤ 200) (p : Nat) (hp : pla l t p) : Z1d l t = some (l.take p ++ [t] ++ l.drop p) := by
 unfold Z1d
 obtain ⟨s, hs, h⟩ := rounds_all (fun k (s : List TJTimer × Bool) i => Za l t (fun (out1 : (List TJTimer)) (done1 : Bool) =>
   if (!done1) then
    (app? 48 out1 [t]).bind fun r_2 =>
    Zx r_2
   else
    Zx out1) k s.1 s.2 i) (fun s =>
   if (!s.2) then
    (app? 48 s.1 [t]).bind fun r_2 =>
    Zx r_2
   else
    Zx s.1) l.length (fun i s => (i ≤ p ∧ s = (l.take i, false)) ∨ (p < i ∧ s = (l.take p ++ [t] ++ (l.take i).drop p, true))) ([], false)
  (.inl ⟨Nat.zero_le _, by simp⟩)
  (fun m s hs => by rw [Za, if_neg (lt_neg _)])
  (fun s i hi hs => by
   have dr : ∀ (h : p ≤ i), (l.take (i + 1)).drop p = (l.take i).drop p ++ [l[i]] := fun h => by
    rw [take_succ_get hi, List.drop_append_of_le_length (by rw [List.length_take]; omega)]
   rcases hs with ⟨h1, rfl⟩ | ⟨h1, rfl⟩
   ·by_cases hlt : tLt t l[i]
    ·have e : i = p := by
      rcases Nat.lt_or_ge i p with h | h
      ·exact absurd hlt (hp.2.1 i hi h)
      ·omega
     subst e
     refine ⟨(l.take i ++ [t] ++ (l.take (i + 1)).drop i, true), .inr ⟨by omega, rfl⟩, fun m => ?_⟩
     rw [Za, if_pos (lt_pos hi), at_some hi, Option.bind_some, if_pos (by rw [Bool.and_eq_true]; exact ⟨rfl, (tLt_dec _ _).2 hlt⟩), appq (by simp; omega), Option.bind_some]
     unfold Z1c
     rw [appq (by simp; omega), Option.bind_some, wi_next hi (by omega), dr (Nat.le_refl _)]
     simp
    ·have hne : i < p := by
      rcases Nat.lt_or_ge i p with h | h
      ·exact h
      ·have e : i = p := by omega
       subst e
       exact absurd (hp.2.2 hi) hlt
     refine ⟨(l.take (i + 1), false), .inl ⟨by omega, rfl⟩, fun m => ?_⟩
     rw [Za, if_pos (lt_pos hi), at_some hi, Option.bind_some, if_neg (by rw [Bool.and_eq_true]; exact fun h => hlt ((tLt_dec _ _).1 h.2))]
     unfold Z1c
     rw [appq (by simp; omega), Option.bind_some, wi_next hi (by omega), take_succ_get hi]
   ·refine ⟨(l.take p ++ [t] ++ (l.take (i + 1)).drop p, true), .inr ⟨by omega, rfl⟩, fun m => ?_⟩
    rw [Za, if_pos (lt_pos hi), at_some hi, Option.bind_some, if_neg (by simp)]
    unfold Z1c
    rw [appq (by simp; omega), Option.bind_some, wi_next hi (by omega), dr (by omega)]
    simp)
 refine h.trans ?_
 rcases hs with ⟨h1, rfl⟩ | ⟨h1, rfl⟩
 ·have e : p = l.length := by have := hp.1; omega
  subst e
  rw [if_pos (by simp)]
  show (app? 48 (l.take l.length) [t]).bind _ = _
  rw [appq (by simp; omega), Option.bind_some]
  unfold Zx
  simp
 ·rw [if_neg (by simp)]
  unfold Zx
  rw [take_all]
/-! ### halving -/
theorem mid_eq {x y : Nat} (h : x + y < 100000) : wr .i64 (shr .u64 (wr .u64 (wi ((x : Int) + (y : Int)))) 1) = (((x + y) / 2 : Nat) : Int) := by
 rw [wi_id (by omega) (by omega), wr_u64, wr_i64]
 have e : ((x : Int) + (y : Int)) % 18446744073709551616 = ((x + y : Nat) : Int) := by omega
 rw [e]
 have e2 : shr .u64 ((x + y : Nat) : Int) 1 = (((x + y) / 2 : Nat) : Int) := by
  show Int.fdiv ((x + y : Nat) : Int) 2 = _
  rw [Int.fdiv_eq_ediv_of_nonneg _ (by decide)]
  omega
 rw [e2, wi_id (by omega) (by omega)]
theorem halves (l : List TJTimer) (t : TJTimer) (hl : l.length ≤ 200) (K : Int → Option (Int × Bool)) (p : Nat) (hpl : p ≤ l.length) (hlow : ∀ (i : Nat) (h : i < l.length), i < p → tLt l[i] t) (hhigh : ∀ (i : Nat) (h : i < l.length), p ≤ i → ¬ tLt l[i] t) :
  ∀ (d i j : Nat), i ≤ p → p ≤ j → j ≤ l.length → j - i ≤ d → ∀ m, Z9 l t K (m + d + 1) (i : Int) (j : Int) = K (p : Int)
 | 0, i, j, h1, h2, h3, h4, m => by
  have e1 : i = p := by omega
  have e2 : j = p := by omega
  subst e1 e2
  rw [Z9, if_neg (by simp)]
 | d + 1, i, j, h1, h2, h3, h4, m => by
  by_cases hij : i < j
  ·have hk : (i + j) / 2 < l.length := by omega
   obtain ⟨c, e1, e2, _⟩ := before_eq l[(i + j) / 2] t
   rw [Z9, if_pos (by simp only [decide_eq_true_eq]; omega), mid_eq (by omega), at_some hk, Option.bind_some, e1, Option.bind_some]
   by_cases hc : (i + j) / 2 < p
   ·rw [if_pos (by simp only [decide_eq_true_eq]; exact e2.2 (hlow _ hk hc)), wi_id (by omega) (by omega), show (((i + j) / 2 : Nat) : Int) + 1 = (((i + j) / 2 + 1 : Nat) : Int) by omega, show m + (d + 1) = m + d + 1 by omega]
    exact halves l t hl K p hpl hlow hhigh d _ j (by omega) h2 h3 (by omega) m
   ·rw [if_neg (by simp only [decide_eq_true_eq]; exact fun h => hhigh _ hk (by omega) (e2.1 h)), show m + (d + 1) = m + d + 1 by omega]
    exact halves l t hl K p hpl hlow hhigh d i _ h1 (by omega) (by omega) (by omega) m
  ·rw [Z9, if_neg (by simp only [decide_eq_true_eq]; omega), show (i : Int) = (p : Int) by omega]
theorem lay_eq (l : List TJTimer) (t : TJTimer) (hl : l.length ≤ 200) (hs : l.Pairwise tLt) (hne : ∀ s ∈ l, s.ID ≠ t.ID) (p : Nat) (hp : pla l t p) : Z1j l t = some (l.take p ++ [t] ++ l.drop p) := by
 have tot : ∀ s ∈ l, ¬ tLt t s → tLt s t := fun s hm h => by
  have := hne s hm
  unfold tLt at *
  omega
 have asym : ∀ a b, tLt a b → ¬ tLt b a := fun a b h h2 => by unfold tLt at *; omega
 have hlow : ∀ (i : Nat) (h : i < l.length), i < p → tLt l[i] t := fun i h hi => tot _ (List.getElem_mem h) (hp.2.1 i h hi)
 have hhigh : ∀ (i : Nat) (h : i < l.length), p ≤ i → ¬ tLt l[i] t := fun i h hi => by
  by_cases e : p = i
  ·subst e; exact asym _ _ (hp.2.2 h)
  ·have h1 := hp.2.2 (by omega)
   have h2 := List.pairwise_iff_getElem.1 hs p i (by omega) h (by omega)
   exact asym _ _ (tLt_trans h1 h2)
 unfold Z1j Z2f
 have hb : ∃ b, lim (fun kk => Z9 l t (fun (i_1 : Int) =>
   if decide (i_1 < (l.length : Int)) then
    (at? l i_1).bind fun x_2 =>
    (Zk x_2 t).bind fun r_1 =>
    Zt i_1 (decide (r_1 = 0))
   else
    Zt i_1 false) kk 0 (l.length : Int)) = some ((p : Int), b) := by
  by_cases h : p < l.length
  ·obtain ⟨c, e1, e2, _⟩ := before_eq l[p] t
   refine ⟨decide (c = 0), lim_add (l.length + 1) fun m => ?_⟩
   have := halves l t hl (fun (i_1 : Int) =>
    if decide (i_1 < (l.length : Int)) then
     (at? l i_1).bind fun x_2 =>
     (Zk x_2 t).bind fun r_1 =>
     Zt i_1 (decide (r_1 = 0))
    else
     Zt i_1 false) p hp.1 hlow hhigh l.length 0 l.length (Nat.zero_le _) hp.1 (Nat.le_refl _) (by omega) m
   refine this.trans ?_
   rw [if_pos (lt_pos h), at_some h, Option.bind_some, e1, Option.bind_some]
   rfl
  ·refine ⟨false, lim_add (l.length + 1) fun m => ?_⟩
   have := halves l t hl (fun (i_1 : Int) =>
    if decide (i_1 < (l.length : Int)) then
     (at? l i_1).bind fun x_2 =>
     (Zk x_2 t).bind fun r_1 =>
     Zt i_1 (decide (r_1 = 0))
    else
     Zt i_1 false) p hp.1 hlow hhigh l.length 0 l.length (Nat.zero_le _) hp.1 (Nat.le_refl _) (by omega) m
   refine this.trans ?_
   rw [if_neg (by simp only [decide_eq_true_eq]; omega)]
   rfl
 obtain ⟨b, hb⟩ := hb
 have hpl := hp.1
 rw [hb, Option.bind_some]
 unfold Z2r
 show (ins? 48 l (p : Int) t).bind _ = _
 rw [ins_some (by omega) (by omega) (by omega), Option.bind_some, Int.toNat_natCast]
/-! ### timers that are laid: still in order, still of their own numbers -/
theorem laid_mem {l : List TJTimer} {t x : TJTimer} {p : Nat} : x ∈ l.take p ++ [t] ++ l.drop p ↔ x = t ∨ x ∈ l := by
 rw [List.append_assoc, List.mem_append, List.mem_append, List.mem_singleton]
 conv => rhs; rw [← List.take_append_drop p l, List.mem_append]
 constructor
 ·rintro (h | h | h)
  ·exact .inr (.inl h)
  ·exact .inl h
  ·exact .inr (.inr h)
 ·rintro (h | h | h)
  ·exact .inr (.inl h)
  ·exact .inl h
  ·exact .inr (.inr h)
theorem laid_perm (l : List TJTimer) (t : TJTimer) (p : Nat) : (l.take p ++ [t] ++ l.drop p).Perm (l ++ [t]) := by
 have h1 : (l.take p ++ [t] ++ l.drop p).Perm (l.take p ++ (l.drop p ++ [t])) := by
  rw [List.append_assoc]
  exact List.Perm.append_left _ List.perm_append_comm
 rw [← List.append_assoc, List.take_append_drop] at h1
 exact h1
theorem laid_sorted {l : List TJTimer} {t : TJTimer} (hs : l.Pairwise tLt) (hne : ∀ s ∈ l, s.ID ≠ t.ID) {p : Nat} (hp : pla l t p) : (l.take p ++ [t] ++ l.drop p).Pairwise tLt := by
 have tot : ∀ s ∈ l, ¬ tLt t s → tLt s t := fun s hm h => by
  have := hne s hm
  unfold tLt at *
  omega
 have hlow : ∀ a ∈ l.take p, tLt a t := fun a ha => by
  obtain ⟨i, hi, rfl⟩ := List.mem_iff_getElem.1 ha
  rw [List.length_take] at hi
  rw [List.getElem_take]
  exact tot _ (List.getElem_mem _) (hp.2.1 i (by omega) (by omega))
 have hhigh : ∀ b ∈ l.drop p, tLt t b := fun b hb => by
  obtain ⟨i, hi, rfl⟩ := List.mem_iff_getElem.1 hb
  rw [List.length_drop] at hi
  rw [List.getElem_drop]
  by_cases e : i = 0
  ·subst e; exact hp.2.2 (by omega)
  ·exact tLt_trans (hp.2.2 (by omega)) (List.pairwise_iff_getElem.1 hs p (p + i) (by omega) (by omega) (by omega))
 rw [List.append_assoc, List.pairwise_append]
 refine ⟨hs.sublist (List.take_sublist _ _), ?_, fun a ha b hb => ?_⟩
 ·rw [List.singleton_append, List.pairwise_cons]
  exact ⟨hhigh, hs.sublist (List.drop_sublist _ _)⟩
 ·rw [List.singleton_append, List.mem_cons] at hb
  rcases hb with rfl | hb
  ·exact hlow a ha
  ·exact tLt_trans (hlow a ha) (hhigh b hb)
theorem fn1_eq (e : Int) : Z0 e = ((⟨0, 0, [], [], []⟩ : TJLoop), 0, e) := rfl
theorem within_iff (n a b : Int) : Z1 n a b = true ↔ a ≤ n ∧ n ≤ b := by unfold Z1; simp
theorem betw_within (n a b : Int) : Z2 n a b = Z1 n a b := rfl
theorem full_room (q : TJLoop) (a : TJAsk) (n : Nat) (h : 0 ≤ q.Next ∧ q.Next ≤ 1000000000) : Zy ⟨q, a⟩ (n : Int) = !(Z4 (n : Int) q.Now q.Next q.Tasks q.Smalls q.Timers) := by
 unfold Zy Z4
 rw [Bool.eq_iff_iff]
 simp only [Bool.or_eq_true, decide_eq_true_eq, Bool.not_eq_true', Bool.and_eq_false_iff, decide_eq_false_iff_not]
 show _ ∨ q.Next = _ ↔ _
 omega
theorem room_iff (q : TJLoop) (n : Nat) : Z4 (n : Int) q.Now q.Next q.Tasks q.Smalls q.Timers = true ↔ n < 100 ∧ q.Next < 1000000000 := by
 unfold Z4
 simp
 omega
/-! ### what a loop stays that has one more -/
theorem ids_new {q : TJLoop} (h : LoopOK q) : q.Next ∉ idsOf q := fun hm => by have := (h.ids _ hm).2; omega
theorem ok_next {q p : TJLoop} (h : LoopOK q) (hn : q.Next < 1000000000) (hs : Short p) (e1 : p.Now = q.Now) (e2 : p.Next = q.Next + 1) (hp : (idsOf p).Perm (q.Next :: idsOf q)) (ht : ∀ j ∈ p.Tasks, taskOK j) (hsm : ∀ j ∈ p.Smalls, smallOK j) (htm : ∀ t ∈ p.Timers, timerOK q t) (hso : p.Timers.Pairwise tLt) : LoopOK p := by
 have h0 := h.next
 refine ⟨hs, by rw [e1]; exact h.now, by rw [e2]; omega, fun n hn => ?_, ?_, ht, hsm, fun t ht => ?_, hso⟩
 ·rw [e2]
  rcases List.mem_cons.1 (hp.mem_iff.1 hn) with rfl | hm
  ·omega
  ·have := h.ids n hm; omega
 ·exact hp.nodup_iff.2 (List.nodup_cons.2 ⟨ids_new h, h.nodup⟩)
 ·have := htm t ht
  unfold timerOK at *
  rw [e1]; exact this
end Go.Proofs.YtoomjemboekooaaBv
/- Asking of a loop. No program is in sight. -/
namespace Go.Proofs.YtoomjemboekooaaBv
open Go
set_option linter.unusedSimpArgs false
set_option linter.unusedVariables false
def qz : TJLoop := ⟨0, 0, [], [], []⟩
theorem clone1 (l : List TJJob) (h : l.length ≤ 1000) : Z10 l = some l := by
 unfold Z10
 rw [appq (by simp; omega)]; rfl
theorem clone2 (l : List TJTimer) (h : l.length ≤ 1000) : Z1v l = some l := by
 unfold Z1v
 rw [appq (by simp; omega)]; rfl
theorem copied_eq (q : TJLoop) (h : Short q) : Z1h q = some q := by
 have h1 := h.l1
 have h2 := h.l2
 have h3 := h.l3
 unfold Z1h
 rw [clone1 _ (by omega), Option.bind_some, clone1 _ (by omega), Option.bind_some, clone2 _ (by omega), Option.bind_some]
theorem check_ok {q : TJLoop} (h : LoopOK q) : Zz q = some 0 := by
 obtain ⟨c, e, _, h2, _⟩ := check_eq q
 rw [e, h2 h.short h]
def fin (r : TJLoop × Int × Int) : TJLoop × Int × Int := if r.2.2 = 0 then (r.1, r.2.1, 0) else (qz, 0, r.2.2)
theorem ask_of {q : TJLoop} {a : TJAsk} (h : LoopOK q) (hd : 1 ≤ a.Do ∧ a.Do ≤ 5) {r : TJLoop × Int × Int} (hr : Zu ⟨q, a⟩ = some r) : Zn q a = some (fin r) := by
 unfold Zn fin
 rw [check_ok h, Option.bind_some, if_neg (by simp), if_neg (by simp [within_iff, hd]), copied_eq q h.short, Option.bind_some, hr, Option.bind_some]
 by_cases e : r.2.2 = 0
 ·rw [if_neg (by simpa using e), if_pos e]
 ·rw [if_pos (by simpa using e), if_neg e]; rfl
theorem perm_tasks (q : TJLoop) (j : TJJob) (N : Int) (X : Int) (hj : j.ID = X) : (idsOf ⟨q.Now, N, q.Tasks ++ [j], q.Smalls, q.Timers⟩).Perm (X :: idsOf q) := by
 subst hj
 unfold idsOf
 simp only [List.map_append, List.map_cons, List.map_nil, List.append_assoc]
 exact List.perm_middle
theorem perm_smalls (q : TJLoop) (j : TJJob) (N : Int) (X : Int) (hj : j.ID = X) : (idsOf ⟨q.Now, N, q.Tasks, q.Smalls ++ [j], q.Timers⟩).Perm (X :: idsOf q) := by
 subst hj
 unfold idsOf
 simp only [List.map_append, List.map_cons, List.map_nil, List.append_assoc]
 exact (List.Perm.append_left _ List.perm_middle).trans List.perm_middle
theorem perm_timers (q : TJLoop) (t : TJTimer) (N : Int) (X : Int) (hj : t.ID = X) (M : Int) (A B : List TJJob) (l : List TJTimer) (p : Nat) : (idsOf ⟨M, N, A, B, l.take p ++ [t] ++ l.drop p⟩).Perm (X :: (A.map (·.ID) ++ B.map (·.ID) ++ l.map (·.ID))) := by
 subst hj
 unfold idsOf
 have h1 := (laid_perm l t p).map (·.ID)
 refine (List.Perm.append_left _ h1).trans ?_
 simp only [List.map_append, List.map_cons, List.map_nil]
 rw [← List.append_assoc]
 exact List.perm_append_comm
theorem post_eq {q : TJLoop} {a : TJAsk} (h : LoopOK q) (small : Bool) : ∃ r, Z1i ⟨q, a⟩ small = some r ∧ (a.Do = (if small then 2 else 1) → Z5 q a = some (fin r)) ∧ (r.2.2 = 0 → LoopOK r.1) := by
 have h0 := h.next
 have s1 := h.short.l1
 have s2 := h.short.l2
 have s3 := h.short.l3
 unfold Z1i
 cases small with
 | true =>
  rw [if_pos rfl, full_room q a _ h0]
  by_cases hr : Z4 (q.Smalls.length : Int) q.Now q.Next q.Tasks q.Smalls q.Timers = true
  ·have hr' := (room_iff _ _).1 hr
   rw [if_neg (by simp [hr]), appq (by simp; omega), Option.bind_some]
   refine ⟨_, rfl, fun e => ?_, fun _ => ?_⟩
   ·have e : a.Do = 2 := e
    unfold Z5
    rw [if_neg (by simp [e]), if_pos (by simp [e]), letIn_eq, hr, if_neg (by simp), clone1 _ (by omega), Option.bind_some, appq (by simp; omega), Option.bind_some]
    rfl
   ·refine ok_next h hr'.2 ⟨s1, by simp; omega, s3⟩ rfl (show wi (q.Next + 1) = q.Next + 1 from wi_id (by omega) (by omega)) (perm_smalls q _ _ _ rfl) h.tasks (fun j hj => ?_) h.timers h.sorted
    rcases List.mem_append.1 hj with hj | hj
    ·exact h.smalls j hj
    ·rw [List.mem_singleton] at hj; subst hj; exact ⟨rfl, rfl⟩
  ·rw [if_pos (by simp [hr])]
   refine ⟨_, rfl, fun e => ?_, fun e => by cases e⟩
   have e : a.Do = 2 := e
   unfold Z5
   rw [if_neg (by simp [e]), if_pos (by simp [e]), letIn_eq, if_pos (by simp [hr])]
   rfl
 | false =>
  rw [if_neg (by simp)]
  by_cases hw : Z1 a.Source 1 4 = true
  ·rw [if_neg (by simp [hw]), full_room q a _ h0]
   have hw' := (within_iff _ _ _).1 hw
   by_cases hr : Z4 (q.Tasks.length : Int) q.Now q.Next q.Tasks q.Smalls q.Timers = true
   ·have hr' := (room_iff _ _).1 hr
    rw [if_neg (by simp [hr]), appq (by simp; omega), Option.bind_some]
    refine ⟨_, rfl, fun e => ?_, fun _ => ?_⟩
    ·have e : a.Do = 1 := e
     unfold Z5
     rw [if_pos (by simp [e]), betw_within, hw, if_neg (by simp), letIn_eq, hr, if_neg (by simp), clone1 _ (by omega), Option.bind_some, appq (by simp; omega), Option.bind_some]
     rfl
    ·refine ok_next h hr'.2 ⟨by simp; omega, s2, s3⟩ rfl (show wi (q.Next + 1) = q.Next + 1 from wi_id (by omega) (by omega)) (perm_tasks q _ _ _ rfl) (fun j hj => ?_) h.smalls h.timers h.sorted
     rcases List.mem_append.1 hj with hj | hj
     ·exact h.tasks j hj
     ·rw [List.mem_singleton] at hj; subst hj; exact ⟨hw'.1, hw'.2, rfl⟩
   ·rw [if_pos (by simp [hr])]
    refine ⟨_, rfl, fun e => ?_, fun e => by cases e⟩
    have e : a.Do = 1 := e
    unfold Z5
    rw [if_pos (by simp [e]), betw_within, hw, if_neg (by simp), letIn_eq, if_pos (by simp [hr])]
    rfl
  ·rw [if_pos (by simp [hw])]
   refine ⟨_, rfl, fun e => ?_, fun e => by cases e⟩
   have e : a.Do = 1 := e
   unfold Z5
   rw [if_pos (by simp [e]), betw_within, if_pos (by simp [hw])]
   rfl
theorem new_ids {q : TJLoop} (h : LoopOK q) : ∀ s ∈ q.Timers, s.ID ≠ q.Next := fun s hs e => ids_new h (e ▸ List.mem_append_right _ (List.mem_map_of_mem hs))
theorem timer_eq {q : TJLoop} {a : TJAsk} (h : LoopOK q) (t2 low : Int) (hd : wi (a.Do - 3) = low) (hlow : 0 ≤ low) (ht2 : t2 = 0 ∨ t2 = a.N) : ∃ r, Z1k ⟨q, a⟩ q.Tasks q.Smalls q.Timers t2 low = some r ∧ Z1q a q t2 = some (fin r) ∧ (r.2.2 = 0 → LoopOK r.1) := by
 have h0 := h.next
 have h1 := h.now
 have s1 := h.short.l1
 have s2 := h.short.l2
 have s3 := h.short.l3
 unfold Z1k Z1q
 dsimp only
 rw [hd, betw_within]
 by_cases hc : Z1 a.N low 1000000 = true ∧ ¬ 1000000000 < wi (q.Now + a.N)
 ·have hw := (within_iff _ _ _).1 hc.1
  have hwi : wi (q.Now + a.N) = q.Now + a.N := wi_id (by omega) (by omega)
  have hc2 := hc.2
  rw [hwi] at hc2
  have hn : ¬ ((!Z1 a.N low 1000000) || decide (1000000000 < wi (q.Now + a.N))) = true := by
   rw [hwi]; simp only [hc.1, Bool.not_true, Bool.false_or, decide_eq_true_eq]; exact hc2
  rw [if_neg hn, if_neg hn, letIn_eq, letIn_eq, full_room q a _ h0]
  by_cases hr : Z4 (q.Timers.length : Int) q.Now q.Next q.Tasks q.Smalls q.Timers = true
  ·have hr' := (room_iff _ _).1 hr
   obtain ⟨p, hp⟩ := pla_ex ⟨q.Next, wi (q.Now + a.N), t2, 0, a.Call⟩ q.Timers
   have e1 := lay_eq q.Timers _ (by omega) h.sorted (new_ids h) p hp
   have e2 := placed_eq q.Timers _ (by omega) p hp
   rw [hr, if_neg (by simp), if_neg (by simp)]
   refine ⟨(⟨q.Now, wi (q.Next + 1), q.Tasks, q.Smalls, _⟩, q.Next, 0), by rw [e1]; rfl, by rw [e2]; rfl, fun _ => ?_⟩
   refine ok_next h hr'.2 ⟨s1, s2, by simp only [List.length_append, List.length_take, List.length_drop, List.length_cons, List.length_nil]; omega⟩ rfl (show wi (q.Next + 1) = q.Next + 1 from wi_id (by omega) (by omega)) (perm_timers q _ _ _ rfl _ _ _ _ _) h.tasks h.smalls (fun t ht => ?_) (laid_sorted h.sorted (new_ids h) hp)
   rcases laid_mem.1 ht with rfl | ht
   ·refine ⟨?_, ?_, ?_, ?_, ?_, ?_⟩
    ·show q.Now ≤ wi (q.Now + a.N); omega
    ·show wi (q.Now + a.N) ≤ _; omega
    ·show 0 ≤ t2; omega
    ·show t2 ≤ _; omega
    ·exact Int.le_refl _
    ·show (0 : Int) ≤ _; omega
   ·exact h.timers t ht
  ·have hr : Z4 (q.Timers.length : Int) q.Now q.Next q.Tasks q.Smalls q.Timers = false := by simpa using hr
   rw [hr]
   exact ⟨_, rfl, rfl, fun e => by cases e⟩
 ·have hc' : ((!Z1 a.N low 1000000) || decide (1000000000 < wi (q.Now + a.N))) = true := by
   cases hx : Z1 a.N low 1000000 with
   | false => rfl
   | true =>
    simp only [Bool.not_true, Bool.false_or, decide_eq_true_eq]
    by_cases hy : 1000000000 < wi (q.Now + a.N)
    ·exact hy
    ·exact absurd ⟨hx, hy⟩ hc
  rw [if_pos hc', if_pos hc']
  exact ⟨_, rfl, rfl, fun e => by cases e⟩
theorem index_eq (l : List TJTimer) (hl : l.length ≤ 1000) (c0 c1 : Int) (c2 c3 : List TJJob) (c4 : List TJTimer) (c5 c6 N : Int) (c8 : List UInt8) (c9 c10 : Int) (c11 : List UInt8) :
  (Z18 l c0 c1 c2 c3 c4 c5 c6 N c8 c9 c10 c11 = some (-1) ∧ ∀ t ∈ l, t.ID ≠ N) ∨ ∃ (i : Nat) (h : i < l.length), Z18 l c0 c1 c2 c3 c4 c5 c6 N c8 c9 c10 c11 = some (i : Int) ∧ l[i].ID = N := by
 unfold Z18
 rcases rounds_lim (fun k (_ : Unit) i => Zm l c0 c1 c2 c3 c4 c5 c6 N c8 c9 c10 c11 (fun _ => some (-1)) k i) (fun _ => some (-1)) l.length (fun i _ => ∀ t ∈ l.take i, t.ID ≠ N) (fun r => ∃ (i : Nat) (h : i < l.length), r = some (i : Int) ∧ l[i].ID = N) () (fun _ h => by simp at h)
  (fun m s hs => by rw [Zm, if_neg (lt_neg _)])
  (fun s i hi hs => by
   have e : ∀ x : TJTimer, Z1m x c0 c1 c2 c3 c4 c5 c6 N c8 c9 c10 c11 = decide (x.ID = N) := fun _ => rfl
   by_cases hc : l[i].ID = N
   ·refine .inr ⟨some i, ⟨i, hi, rfl, hc⟩, fun m => ?_⟩
    rw [Zm, if_pos (lt_pos hi), at_some hi, Option.bind_some, letIn_eq, e, if_pos (by simpa using hc)]
   ·refine .inl ⟨(), fun t ht => ?_, fun m => ?_⟩
    ·rw [take_succ_get hi, List.mem_append, List.mem_singleton] at ht
     rcases ht with ht | rfl
     ·exact hs t ht
     ·exact hc
    ·rw [Zm, if_pos (lt_pos hi), at_some hi, Option.bind_some, letIn_eq, e, if_neg (by simpa using hc), wi_next hi (by omega)]) with ⟨s, hf, h⟩ | ⟨r, ⟨i, hi, rfl, hf⟩, h⟩
 ·rw [take_all] at hf
  exact .inl ⟨h, hf⟩
 ·exact .inr ⟨i, hi, h, hf⟩
theorem left_eq (q : TJLoop) (a : TJAsk) (hl : q.Timers.length ≤ 1000) (K : List TJTimer → Option (TJLoop × Int × Int)) : lim (fun kk => Ze q a K kk ([] : List TJTimer) 0) = K (q.Timers.filter fun t => !decide (t.ID = a.N)) := by
 obtain ⟨s, hs, h⟩ := rounds_all (fun k s i => Ze q a K k s i) K q.Timers.length (fun i s => s = (q.Timers.take i).filter fun t => !decide (t.ID = a.N)) [] (by simp)
  (fun m s hs => by rw [Ze, if_neg (lt_neg _)])
  (fun s i hi hs => ⟨_, rfl, fun m => by
   have hlen : s.length ≤ 1000 := by rw [hs]; exact Nat.le_trans (List.length_filter_le _ _) (by rw [List.length_take]; omega)
   rw [Ze, if_pos (lt_pos hi), at_some hi, Option.bind_some, take_succ_get hi, List.filter_append, ← hs]
   unfold Z28
   rw [wi_next hi (by omega)]
   by_cases hc : q.Timers[i].ID = a.N
   ·rw [if_neg (by simpa using hc), List.filter_cons_of_neg (by simpa using hc), List.filter_nil, List.append_nil]
   ·rw [if_pos (by simpa using hc), appq (by simp; omega), Option.bind_some, List.filter_cons_of_pos (by simpa using hc), List.filter_nil]⟩)
 rw [take_all] at hs
 rw [← hs]
 exact h
theorem filter_one {l : List TJTimer} {i : Nat} {N : Int} (hi : i < l.length) (hN : l[i].ID = N) (hn : (l.map (·.ID)).Nodup) : (l.filter fun t => !decide (t.ID = N)) = l.take i ++ l.drop (i + 1) := by
 have e : l = l.take i ++ l[i] :: l.drop (i + 1) := by rw [← List.drop_eq_getElem_cons hi, List.take_append_drop]
 have h2 : ∀ t ∈ l.take i ++ l.drop (i + 1), t.ID ≠ N := by
  rw [e, List.map_append, List.map_cons, List.nodup_append] at hn
  obtain ⟨n1, n2, n3⟩ := hn
  rw [List.nodup_cons] at n2
  intro t ht h
  rcases List.mem_append.1 ht with ht | ht
  ·exact n3 _ (List.mem_map_of_mem ht) _ List.mem_cons_self (by rw [h, hN])
  ·exact n2.1 (by rw [hN, ← h]; exact List.mem_map_of_mem ht)
 conv => lhs; rw [e]
 rw [List.filter_append, List.filter_cons_of_neg (by simpa using hN), List.filter_eq_self.2 fun t ht => by simpa using h2 t (List.mem_append_left _ ht), List.filter_eq_self.2 fun t ht => by simpa using h2 t (List.mem_append_right _ ht)]
theorem ok_less {q : TJLoop} (h : LoopOK q) (T S : List TJJob) (R : List TJTimer) (hT : T.Sublist q.Tasks) (hS : S.Sublist q.Smalls) (hR : R.Sublist q.Timers) : LoopOK ⟨q.Now, q.Next, T, S, R⟩ := by
 have hsub : (idsOf ⟨q.Now, q.Next, T, S, R⟩).Sublist (idsOf q) := ((hT.map _).append (hS.map _)).append (hR.map _)
 have s1 := h.short.l1
 have s2 := h.short.l2
 have s3 := h.short.l3
 have l1 := hT.length_le
 have l2 := hS.length_le
 have l3 := hR.length_le
 exact ⟨⟨by show T.length ≤ 100; omega, by show S.length ≤ 100; omega, by show R.length ≤ 100; omega⟩, h.now, h.next, fun n hn => h.ids n (hsub.subset hn), h.nodup.sublist hsub, fun j hj => h.tasks j (hT.subset hj), fun j hj => h.smalls j (hS.subset hj), fun t ht => h.timers t (hR.subset ht), h.sorted.sublist hR⟩
theorem timers_nodup {q : TJLoop} (h : LoopOK q) : (q.Timers.map (·.ID)).Nodup := h.nodup.sublist (List.sublist_append_right _ _)
theorem ask_eq {q : TJLoop} {a : TJAsk} (h : LoopOK q) : ∃ r, Zn q a = some r ∧ Z5 q a = some r ∧ (r.2.2 = 0 → LoopOK r.1) := by
 have fin0 : ∀ {r : TJLoop × Int × Int}, (r.2.2 = 0 → LoopOK r.1) → (fin r).2.2 = 0 → LoopOK (fin r).1 := fun {r} hr h => by
  unfold fin at *
  split
  ·rename_i e; exact hr e
  ·rename_i e; rw [if_neg e] at h; exact absurd h e
 by_cases hd : 1 ≤ a.Do ∧ a.Do ≤ 5
 ·have hcase : a.Do = 1 ∨ a.Do = 2 ∨ a.Do = 3 ∨ a.Do = 4 ∨ a.Do = 5 := by omega
  rcases hcase with e | e | e | e | e
  ·obtain ⟨r, h1, h2, h3⟩ := post_eq (a := a) h false
   refine ⟨fin r, ask_of h hd ?_, h2 e, fin0 h3⟩
   unfold Zu
   rw [if_pos (by simpa using e), h1]; rfl
  ·obtain ⟨r, h1, h2, h3⟩ := post_eq (a := a) h true
   refine ⟨fin r, ask_of h hd ?_, h2 e, fin0 h3⟩
   unfold Zu
   rw [if_neg (by simp [e]), if_pos (by simpa using e), h1]; rfl
  ·obtain ⟨r, h1, h2, h3⟩ := timer_eq (a := a) h 0 0 (by rw [e]; rfl) (Int.le_refl _) (.inl rfl)
   refine ⟨fin r, ask_of h hd ?_, ?_, fin0 h3⟩
   ·unfold Zu Z1l
    rw [if_neg (by simp [e]), if_neg (by simp [e]), if_pos (by simpa using e), if_neg (by simp), h1]; rfl
   ·unfold Z5 Z14
    rw [if_neg (by simp [e]), if_neg (by simp [e]), if_pos (by simpa using e), if_pos (by simpa using e), if_neg (by simp [e]), h2]
  ·obtain ⟨r, h1, h2, h3⟩ := timer_eq (a := a) h a.N 1 (by rw [e]; rfl) (by decide) (.inr rfl)
   refine ⟨fin r, ask_of h hd ?_, ?_, fin0 h3⟩
   ·unfold Zu Z1l
    rw [if_neg (by simp [e]), if_neg (by simp [e]), if_neg (by simp [e]), if_pos (by simpa using e), if_pos rfl, h1]; rfl
   ·unfold Z5 Z14
    rw [if_neg (by simp [e]), if_neg (by simp [e]), if_neg (by simp [e]), if_pos (by simpa using e), if_pos (by simpa using e), h2]
  ·have s3 := h.short.l3
   have hdo : Zu ⟨q, a⟩ = (Z18 q.Timers q.Now q.Next q.Tasks q.Smalls q.Timers a.Do a.Source a.N a.Call a.Arg.Kind a.Arg.N a.Arg.S).bind fun r_4 =>
     if decide (r_4 < 0) then
      some (q, 0, 5)
     else
      (Z1w q.Timers r_4 (wi (r_4 + 1))).bind fun r_5 =>
      some ((⟨q.Now, q.Next, q.Tasks, q.Smalls, r_5⟩ : TJLoop), 0, 0) := by
    unfold Zu
    rw [if_neg (by simp [e]), if_neg (by simp [e]), if_neg (by simp [e]), if_neg (by simp [e])]
   have href : Z5 q a = if ((((q.Timers.filter fun t => !decide (t.ID = a.N)).length : Nat) : Int) = (q.Timers.length : Int)) then some (qz, 0, 5) else some ((⟨q.Now, q.Next, q.Tasks, q.Smalls, q.Timers.filter fun t => !decide (t.ID = a.N)⟩ : TJLoop), 0, 0) := by
    unfold Z5 Z14
    rw [if_neg (by simp [e]), if_neg (by simp [e]), if_neg (by simp [e]), if_neg (by simp [e]), if_pos (by simpa using e), left_eq q a (by omega)]
    simp only [decide_eq_true_eq]
    rfl
   rcases index_eq q.Timers (by omega) q.Now q.Next q.Tasks q.Smalls q.Timers a.Do a.Source a.N a.Call a.Arg.Kind a.Arg.N a.Arg.S with ⟨h1, h2⟩ | ⟨i, hi, h1, h2⟩
   ·refine ⟨(qz, 0, 5), ?_, ?_, fun h => by cases h⟩
    ·refine ask_of (r := (q, 0, 5)) h hd ?_
     rw [hdo, h1]; rfl
    ·rw [href, List.filter_eq_self.2 fun t ht => by simpa using h2 t ht, if_pos rfl]
   ·have hf := filter_one hi h2 (timers_nodup h)
    have hlen : (q.Timers.take i ++ q.Timers.drop (i + 1)).length ≠ q.Timers.length := by
     simp only [List.length_append, List.length_take, List.length_drop]; omega
    refine ⟨(⟨q.Now, q.Next, q.Tasks, q.Smalls, q.Timers.take i ++ q.Timers.drop (i + 1)⟩, 0, 0), ?_, ?_, fun _ => ?_⟩
    ·refine ask_of (r := (⟨q.Now, q.Next, q.Tasks, q.Smalls, q.Timers.take i ++ q.Timers.drop (i + 1)⟩, 0, 0)) h hd ?_
     rw [hdo, h1, Option.bind_some, if_neg (by simp), wi_next hi (by omega)]
     show (del? _ _ _).bind _ = _
     rw [del_some (by omega) (by omega) (by omega), Option.bind_some, Int.toNat_natCast, Int.toNat_natCast]
    ·rw [href, hf, if_neg (by omega)]
    ·refine ok_less h _ _ _ (List.Sublist.refl _) (List.Sublist.refl _) ?_
     have : (q.Timers.take i ++ q.Timers.drop (i + 1)).Sublist (q.Timers.take i ++ q.Timers.drop i) := List.Sublist.append (List.Sublist.refl _) (by rw [List.drop_eq_getElem_cons hi]; exact List.sublist_cons_self _ _)
     rwa [List.take_append_drop] at this
 ·refine ⟨(qz, 0, 3), ?_, ?_, fun h => by cases h⟩
  ·unfold Zn
   rw [check_ok h, Option.bind_some, if_neg (by simp), if_pos (by rw [Bool.not_eq_true']; rw [← Bool.not_eq_true, within_iff]; exact hd)]
   rfl
  ·unfold Z5 Z14
   rw [if_neg (by simp; omega), if_neg (by simp; omega), if_neg (by simp; omega), if_neg (by simp; omega), if_neg (by simp; omega)]
   rfl
end Go.Proofs.YtoomjemboekooaaBv
/- The next of a loop. No program is in sight. -/
namespace Go.Proofs.YtoomjemboekooaaBv
open Go
set_option linter.unusedSimpArgs false
set_option linter.unusedVariables false
def jz : TJJob := ⟨0, 0, false, [], ⟨0, 0, []⟩⟩
def dueB (q : TJLoop) (u : Int) : Bool := match q.Timers with
 | [] => false
 | t :: _ => decide (t.At ≤ q.Now) || (decide (q.Tasks.length = 0) && decide (t.At ≤ u))
theorem at_head {α : Type} (x : α) (r : List α) : at? (x :: r) 0 = some x := rfl
theorem del_head {α : Type} (x : α) (r : List α) : del? (x :: r) 0 1 = some r := by
 rw [del_some (by omega) (by omega) (by simp; omega)]; rfl
theorem sub_tail {α : Type} (x : α) (r : List α) : sub? (x :: r) 1 ((x :: r).length : Int) = some r := by
 have := sub_drop (l := x :: r) (a := 1) (by simp)
 exact this
theorem next_due (q : TJLoop) (u : Int) : Z1n q u = Z11 q u q.Tasks q.Smalls q.Timers (dueB q u) := by
 unfold Z1n dueB
 cases hT : q.Timers with
 | nil => rw [if_neg (by simp)]
 | cons t r =>
  rw [if_pos (by simp), at_head, Option.bind_some, Option.bind_some]
  by_cases h1 : t.At ≤ q.Now
  ·rw [if_pos (by simpa using h1)]
   simp [h1]
  ·rw [if_neg (by simpa using h1)]
   by_cases h2 : q.Tasks.length = 0
   ·rw [if_pos (by simp only [decide_eq_true_eq]; omega)]
    simp [h1, h2]
   ·rw [if_neg (by simp only [decide_eq_true_eq]; omega)]
    simp [h1, h2]
theorem ids_sub {q : TJLoop} (h : LoopOK q) {t : TJTimer} {r : List TJTimer} (hT : q.Timers = t :: r) : ∀ s ∈ r, s.ID ≠ t.ID := by
 have hn := timers_nodup h
 rw [hT, List.map_cons, List.nodup_cons] at hn
 intro s hs e
 exact hn.1 (by rw [← e]; exact List.mem_map_of_mem hs)
/-- the first timer is taken -/
theorem fired {q : TJLoop} (h : LoopOK q) {t : TJTimer} {r : List TJTimer} (hT : q.Timers = t :: r) : LoopOK ⟨t.At, q.Next, q.Tasks, q.Smalls, r⟩ := by
 have h0 := h.now
 have ht := h.timers t (by rw [hT]; exact List.mem_cons_self)
 obtain ⟨a, b, c, d, e, f⟩ := ht
 have hl := ok_less h q.Tasks q.Smalls r (List.Sublist.refl _) (List.Sublist.refl _) (by rw [hT]; exact List.sublist_cons_self _ _)
 have hs := h.sorted
 rw [hT, List.pairwise_cons] at hs
 refine ⟨⟨hl.short.l1, hl.short.l2, hl.short.l3⟩, ⟨?_, b⟩, hl.next, hl.ids, hl.nodup, hl.tasks, hl.smalls, fun s hm => ?_, hl.sorted⟩
 ·show 0 ≤ t.At; omega
 ·obtain ⟨a', b', c', d', e', f'⟩ := hl.timers s hm
  have := hs.1 s hm
  refine ⟨?_, b', c', d', e', f'⟩
  show t.At ≤ s.At
  unfold tLt at this
  omega
theorem fired_laid {q : TJLoop} (h : LoopOK q) {t : TJTimer} {r : List TJTimer} (hT : q.Timers = t :: r) (h1 : 0 < t.Every) (h2 : t.At + t.Every ≤ 1000000000) (h3 : t.Turn < 1000000000) {t' : TJTimer} (e1 : t'.ID = t.ID) (e2 : t'.At = t.At + t.Every) (e3 : t'.Every = t.Every) (e4 : t'.Turn = t.Turn + 1) {p : Nat} (hp : pla r t' p) : LoopOK ⟨t.At, q.Next, q.Tasks, q.Smalls, r.take p ++ [t'] ++ r.drop p⟩ := by
 have hf := fired h hT
 have h0 := h.now
 obtain ⟨a, b, c, d, e, f⟩ := h.timers t (by rw [hT]; exact List.mem_cons_self)
 have s3 := h.short.l3
 have hpl := hp.1
 have hperm : (idsOf ⟨t.At, q.Next, q.Tasks, q.Smalls, r.take p ++ [t'] ++ r.drop p⟩).Perm (idsOf q) := by
  refine (perm_timers q t' q.Next t.ID e1 t.At q.Tasks q.Smalls r p).trans ?_
  unfold idsOf
  rw [hT, List.map_cons]
  exact List.perm_middle.symm
 rw [hT] at s3
 refine ⟨⟨hf.short.l1, hf.short.l2, by simp only [List.length_append, List.length_take, List.length_drop, List.length_cons, List.length_nil]; rw [List.length_cons] at s3; omega⟩, hf.now, hf.next, fun n hn => h.ids n (hperm.mem_iff.1 hn), hperm.nodup_iff.2 h.nodup, hf.tasks, hf.smalls, fun s hs => ?_, laid_sorted hf.sorted (fun s hs => by rw [e1]; exact ids_sub h hT s hs) hp⟩
 rcases laid_mem.1 hs with rfl | hs
 ·unfold timerOK
  show t.At ≤ s.At ∧ _
  omega
 ·exact hf.timers s hs
theorem fire_eq {q : TJLoop} (h : LoopOK q) {t : TJTimer} {r : List TJTimer} (hT : q.Timers = t :: r) : ∃ p : TJLoop, Z1y q = some (p, ⟨t.ID, 3, false, t.Call, ⟨2, t.Turn, []⟩⟩) ∧ LoopOK p ∧ p.Now = t.At ∧ p.Next = q.Next ∧ p.Tasks = q.Tasks ∧ p.Smalls = q.Smalls ∧
  (if (((decide (0 < t.Every)) && (decide (t.Turn < 1000000000))) && (decide ((wi (t.At + t.Every)) ≤ 1000000000))) then Z1d r (⟨t.ID, (wi (t.At + t.Every)), t.Every, (wi (t.Turn + 1)), t.Call⟩ : TJTimer) else some r) = some p.Timers := by
 obtain ⟨a, b, c, d, e, f⟩ := h.timers t (by rw [hT]; exact List.mem_cons_self)
 have h0 := h.now
 have hw1 : wi (t.At + t.Every) = t.At + t.Every := wi_id (by omega) (by omega)
 have hw2 : wi (t.Turn + 1) = t.Turn + 1 := wi_id (by omega) (by omega)
 have hmx : mx q.Now t.At = t.At := by unfold mx; split <;> omega
 have s3 := h.short.l3
 have s3' := s3
 rw [hT, List.length_cons] at s3'
 have hdel : Z1w q.Timers 0 1 = some r := by rw [hT]; exact del_head t r
 unfold Z1y Z1x
 rw [show at? q.Timers 0 = some t by rw [hT]; rfl, Option.bind_some, hdel, Option.bind_some, hmx, hw1, hw2]
 by_cases hc : 0 < t.Every ∧ t.Turn < 1000000000 ∧ t.At + t.Every ≤ 1000000000
 ·obtain ⟨c1, c2, c3⟩ := hc
  obtain ⟨p, hp⟩ := pla_ex ⟨t.ID, t.At + t.Every, t.Every, t.Turn + 1, t.Call⟩ r
  have hs := h.sorted
  rw [hT, List.pairwise_cons] at hs
  rw [if_pos (by simp [c1, c2, c3]), if_pos (by simp [c1, c2, c3]), lay_eq r ⟨t.ID, t.At + t.Every, t.Every, t.Turn + 1, t.Call⟩ (by omega) hs.2 (fun s hm => ids_sub h hT s hm) p hp, placed_eq r _ (by omega) p hp]
  exact ⟨_, rfl, fired_laid (t' := ⟨t.ID, t.At + t.Every, t.Every, t.Turn + 1, t.Call⟩) h hT c1 c3 c2 rfl rfl rfl rfl hp, rfl, rfl, rfl, rfl, rfl⟩
 ·rw [if_neg (by simp only [Bool.and_eq_true, decide_eq_true_eq]; omega), if_neg (by simp only [Bool.and_eq_true, decide_eq_true_eq]; omega)]
  exact ⟨_, rfl, fired h hT, rfl, rfl, rfl, rfl, rfl⟩
theorem rest_eq {q : TJLoop} (h : LoopOK q) (u : Int) (hu : 0 ≤ u ∧ u ≤ 1000000000) (hd : dueB q u = false) : ∃ r : TJLoop × TJJob × Bool,
  (if decide (0 < (q.Tasks.length : Int)) then
    (at? q.Tasks 0).bind fun x_1 =>
    (Z2g q.Tasks 0 1).bind fun r_2 =>
    some ((⟨q.Now, q.Next, r_2, q.Smalls, q.Timers⟩ : TJLoop), x_1, true)
   else
    some ((⟨u, q.Next, q.Tasks, q.Smalls, q.Timers⟩ : TJLoop), (⟨0, 0, false, [], (⟨0, 0, []⟩ : TJVal)⟩ : TJJob), false)) = some r ∧
  (if decide (0 < (q.Tasks.length : Int)) then
     (at? q.Tasks 0).bind fun x_2 =>
     (sub? q.Tasks 1 (q.Tasks.length : Int)).bind fun r_3 =>
     some ((⟨q.Now, q.Next, r_3, q.Smalls, q.Timers⟩ : TJLoop), x_2, true)
    else
     some ((⟨u, q.Next, q.Tasks, q.Smalls, q.Timers⟩ : TJLoop), (⟨0, 0, false, [], (⟨0, 0, []⟩ : TJVal)⟩ : TJJob), false)) = some r ∧ LoopOK r.1 := by
 cases hT : q.Tasks with
 | nil =>
  rw [if_neg (by simp), if_neg (by simp)]
  refine ⟨_, rfl, rfl, ?_⟩
  have hl := ok_less h [] q.Smalls q.Timers (List.nil_sublist _) (List.Sublist.refl _) (List.Sublist.refl _)
  refine ⟨⟨hl.short.l1, hl.short.l2, hl.short.l3⟩, hu, hl.next, hl.ids, hl.nodup, hl.tasks, hl.smalls, fun s hs => ?_, hl.sorted⟩
  obtain ⟨a, b, c, d, e, f⟩ := h.timers s hs
  refine ⟨?_, b, c, d, e, f⟩
  show u ≤ s.At
  unfold dueB at hd
  cases hR : q.Timers with
  | nil => have hs : s ∈ q.Timers := hs; rw [hR] at hs; cases hs
  | cons t r =>
   rw [hR] at hd
   have hs : s ∈ q.Timers := hs
   have hso := h.sorted
   rw [hR] at hs hso
   simp [hT] at hd
   rcases List.mem_cons.1 hs with rfl | hs
   ·omega
   ·have := (List.pairwise_cons.1 hso).1 s hs
    unfold tLt at this
    omega
 | cons x r =>
  rw [if_pos (by simp), if_pos (by simp), at_head, Option.bind_some, Option.bind_some, sub_tail]
  show ∃ r_1, (del? (x :: r) 0 1).bind _ = _ ∧ _
  rw [del_head]
  exact ⟨_, rfl, rfl, ok_less h r q.Smalls q.Timers (by rw [hT]; exact List.sublist_cons_self _ _) (List.Sublist.refl _) (List.Sublist.refl _)⟩
theorem next_eq {q : TJLoop} (h : LoopOK q) (u : Int) (hu : 0 ≤ u ∧ u ≤ 1000000000) : ∃ r, Z1n q u = some r ∧ Z2a q u = some r ∧ LoopOK r.1 := by
 rw [next_due]
 unfold Z11 Z2a
 cases hS : q.Smalls with
 | cons x s =>
  rw [if_pos (by simp), if_pos (by simp), at_head, Option.bind_some, Option.bind_some, sub_tail]
  show ∃ r_1, (del? (x :: s) 0 1).bind _ = _ ∧ _
  rw [del_head]
  exact ⟨_, rfl, rfl, ok_less h q.Tasks s q.Timers (List.Sublist.refl _) (by rw [hS]; exact List.sublist_cons_self _ _) (List.Sublist.refl _)⟩
 | nil =>
  have hz : ¬ decide (0 < (([] : List TJJob).length : Int)) = true := by simp
  rw [if_neg hz, if_neg hz]
  have K0 := rest_eq h u hu
  rw [hS] at K0
  cases hR : q.Timers with
  | nil =>
   have hd : dueB q u = false := by unfold dueB; rw [hR]
   rw [hd]
   obtain ⟨r, e1, e2, e3⟩ := K0 hd
   rw [hR] at e1 e2
   refine ⟨r, by rw [if_neg (by simp)]; exact e1, ?_, e3⟩
   refine lim_add 1 fun m => ?_
   rw [Zr, if_neg (by rw [hR]; simp)]
   exact e2
  | cons t rr =>
   cases hd : dueB q u with
   | false =>
    obtain ⟨r, e1, e2, e3⟩ := K0 hd
    rw [hR] at e1 e2
    refine ⟨r, by rw [if_neg (by simp)]; exact e1, ?_, e3⟩
    refine lim_add 1 fun m => ?_
    rw [Zr, if_pos (by rw [hR]; simp), show at? q.Timers 0 = some t by rw [hR]; rfl, Option.bind_some, if_pos]
    ·exact e2
    ·unfold dueB at hd
     rw [hR] at hd
     simp only [Bool.or_eq_false_iff, Bool.and_eq_false_iff, decide_eq_false_iff_not] at hd
     simp only [Bool.and_eq_true, Bool.or_eq_true, decide_eq_true_eq]
     omega
   | true =>
    obtain ⟨p, f1, f2, f3, f4, f5, f6, f7⟩ := fire_eq h hR
    refine ⟨(p, ⟨t.ID, 3, false, t.Call, ⟨2, t.Turn, []⟩⟩, true), ?_, ?_, f2⟩
    ·have e : (⟨q.Now, q.Next, q.Tasks, [], t :: rr⟩ : TJLoop) = q := by rw [← hS, ← hR]
     rw [if_pos rfl, e, f1]; rfl
    ·refine lim_add 1 fun m => ?_
     obtain ⟨a, b, c, d, e, f⟩ := h.timers t (by rw [hR]; exact List.mem_cons_self)
     have ep : ∀ q0 : Int, q0 = t.At → (⟨q0, q.Next, q.Tasks, q.Smalls, p.Timers⟩ : TJLoop) = p := fun q0 e0 => by
      rw [e0, ← f3, ← f4, ← f5, ← f6]
     have j3 : ∀ (q0 : Int) (self : Option (TJLoop × TJJob × Bool)) K, q0 = t.At → Z1r t rr q u self K q0 = some (p, ⟨t.ID, 3, false, t.Call, ⟨2, t.Turn, []⟩⟩, true) := fun q0 self K e0 => by
      unfold Z1r Z29
      split
      ·rename_i hc
       rw [if_pos hc] at f7
       rw [f7, Option.bind_some, ep q0 e0]
      ·rename_i hc
       rw [if_neg hc] at f7
       cases f7
       rw [ep q0 e0]
     rw [Zr, if_pos (by rw [hR]; simp), show at? q.Timers 0 = some t by rw [hR]; rfl, Option.bind_some, if_neg, show sub? q.Timers 1 (q.Timers.length : Int) = some rr by rw [hR]; exact sub_tail t rr, Option.bind_some]
     ·by_cases hc : q.Now < t.At
      ·rw [if_pos (by simpa using hc)]; exact j3 _ _ _ rfl
      ·rw [if_neg (by simpa using hc)]; exact j3 _ _ _ (by omega)
     ·unfold dueB at hd
      rw [hR] at hd
      simp only [Bool.or_eq_true, Bool.and_eq_true, decide_eq_true_eq] at hd
      simp only [Bool.and_eq_true, Bool.or_eq_true, decide_eq_true_eq]
      omega
/-! ### the same loops -/
theorem same_jobs (l : List TJJob) (hl : l.length ≤ 1000) : Z1p l l = some true := by
 unfold Z1p
 rw [if_neg (by simp)]
 obtain ⟨s, hs, h⟩ := rounds_all (fun k (_ : Unit) i => Zv l l (fun _ => some true) k i) (fun _ => some true) l.length (fun _ _ => True) () trivial
  (fun m s hs => by rw [Zv, if_neg (lt_neg _)])
  (fun s i hi hs => ⟨(), trivial, fun m => by
   rw [Zv, if_pos (lt_pos hi), at_some hi, Option.bind_some, Option.bind_some, letIn_eq, if_neg (by simp), wi_next hi (by omega)]⟩)
 exact h
theorem same_timers (l : List TJTimer) (hl : l.length ≤ 1000) : Z23 l l = some true := by
 unfold Z23
 rw [if_neg (by simp)]
 obtain ⟨s, hs, h⟩ := rounds_all (fun k (_ : Unit) i => Zw l l (fun _ => some true) k i) (fun _ => some true) l.length (fun _ _ => True) () trivial
  (fun m s hs => by rw [Zw, if_neg (lt_neg _)])
  (fun s i hi hs => ⟨(), trivial, fun m => by
   rw [Zw, if_pos (lt_pos hi), at_some hi, Option.bind_some, Option.bind_some, letIn_eq, if_neg (by simp), wi_next hi (by omega)]⟩)
 exact h
theorem same_eq (q : TJLoop) (h : Short q) : Zd q q = some true := by
 have h1 := h.l1
 have h2 := h.l2
 have h3 := h.l3
 unfold Zd Z1a
 rw [if_pos (by simp), same_jobs _ (by omega), Option.bind_some, if_pos rfl, same_jobs _ (by omega), Option.bind_some, if_pos rfl, same_timers _ (by omega), Option.bind_some]
theorem short_qz : Short qz := ⟨Nat.zero_le _, Nat.zero_le _, Nat.zero_le _⟩

theorem ask_short {q : TJLoop} {a : TJAsk} (h : LoopOK q) {r : TJLoop × Int × Int} (hr : Zn q a = some r) (hne : r.2.2 ≠ 0) : Short r.1 := by
 unfold Zn at hr
 rw [check_ok h, Option.bind_some, if_neg (by simp)] at hr
 split at hr
 ·cases hr; exact short_qz
 ·rw [copied_eq q h.short, Option.bind_some] at hr
  obtain ⟨x, _, hr⟩ := Option.bind_eq_some_iff.1 hr
  split at hr
  ·cases hr; exact short_qz
  ·cases hr; exact absurd rfl hne
end Go.Proofs.YtoomjemboekooaaBv
/- The law of a loop's steps, over plain values. No program is in sight. -/
namespace Go.Proofs.YtoomjemboekooaaBv
open Go
set_option linter.unusedSimpArgs false
set_option linter.unusedVariables false
theorem job_same (x : TJJob) : (decide (x.ID = x.ID) && (decide (x.Source = x.Source) && ((x.Small == x.Small) && (decide (x.Call = x.Call) && (decide (x.Arg.Kind = x.Arg.Kind) && (decide (x.Arg.N = x.Arg.N) && (decide (x.Arg.S = x.Arg.S) && true))))))) = true := by simp
theorem pureLoopSteps : PureLoopSteps := by
 intro q a u hq ha hu
 obtain ⟨c, e1, c1, c2, c3⟩ := check_eq q
 obtain ⟨c', e2, d1, d2, d3⟩ := right_eq q
 have hcc : c' = c := by
  by_cases hs : Short q
  ·by_cases ho : LoopOK q
   ·rw [c2 hs ho, d2 hs ho]
   ·rw [c3 hs ho, d3 hs ho]
  ·rw [c1 hs, d1 hs]
 subst hcc
 unfold Z2l
 by_cases h : LoopOK q
 ·have e0 := c2 h.short h
  subst e0
  obtain ⟨r, r1, r2, r3⟩ := ask_eq (a := a) h
  have hshort : Short r.1 := by
   by_cases hr : r.2.2 = 0
   ·exact (r3 hr).short
   ·obtain ⟨c, ec⟩ : ∃ x, Zn q a = some x := ⟨_, r1⟩
    exact ask_short h r1 hr
  have s7 := same_eq r.1 hshort
  unfold Z1z
  rw [r1, Option.bind_some, e1, Option.bind_some, if_neg (by simp)]
  by_cases hw : Z1 u q.Now 1000000000 = true
  ·have hw' := (within_iff _ _ _).1 hw
   have h0 := h.now
   obtain ⟨n, n1, n2, n3⟩ := next_eq h u (by omega)
   rw [if_neg (by simp [hw]), copied_eq q h.short, Option.bind_some, n1, Option.bind_some, Option.bind_some, e2, Option.bind_some, Option.bind_some, if_neg (by simp), if_neg (by simp), r2, Option.bind_some, s7, Option.bind_some, if_neg (by simp), betw_within, if_neg (by simp [hw]), n2, Option.bind_some, same_eq n.1 n3.short, Option.bind_some]
   simp
  ·rw [if_pos (by simp [hw]), Option.bind_some, e2, Option.bind_some, Option.bind_some, if_neg (by simp), if_neg (by simp), r2, Option.bind_some, s7, Option.bind_some, if_neg (by simp), betw_within, if_pos (by simp [hw])]
   show (Zd qz qz).bind _ = _
   rw [same_eq qz short_qz]
   rfl
 ·have hne : c' ≠ 0 := by
   by_cases hs : Short q
   ·rw [c3 hs h]; decide
   ·rw [c1 hs]; decide
  unfold Zn Z1z Z2b
  rw [e1, Option.bind_some, if_pos (by simpa using hne), Option.bind_some, Option.bind_some, if_pos (by simpa using hne), Option.bind_some, e2, Option.bind_some, Option.bind_some, if_neg (by simp), if_pos (by simpa using hne)]
  show (Zd qz qz).bind _ = _
  rw [same_eq qz short_qz, Option.bind_some, if_pos (by simp)]
  show (Zd qz qz).bind _ = _
  rw [same_eq qz short_qz, Option.bind_some]
  simp
end Go.Proofs.YtoomjemboekooaaBv
-- squeezed
