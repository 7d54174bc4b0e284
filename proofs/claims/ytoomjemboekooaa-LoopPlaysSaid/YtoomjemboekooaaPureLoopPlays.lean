/- The law LoopPlays, over plain values, in parts. No program is in sight. -/
import Derived.Test.YtoomjemboekooaaShLoopPlays
import Derived.Test.YtoomjemboekooaaBv23
/- Loops over a list, said once: an invariant, rounds that go on, rounds that end it all. No program is in sight. -/
namespace Go.Proofs.YtoomjemboekooaaBv
open Go
set_option linter.unusedSimpArgs false
set_option linter.unusedVariables false
theorem rounds {σ β : Type} (F : Nat → σ → Int → Option β) (K : σ → Option β) (n : Nat) (I : Nat → σ → Prop) (E : Option β → Prop)
  (stop : ∀ m s, I n s → F (m + 1) s (n : Int) = K s)
  (step : ∀ s (i : Nat), i < n → I i s → (∃ s', I (i + 1) s' ∧ ∀ m, F (m + 1) s (i : Int) = F m s' ((i + 1 : Nat) : Int)) ∨ ∃ v, E v ∧ ∀ m, F (m + 1) s (i : Int) = v) :
  ∀ (c i : Nat) s, i + c = n → I i s → (∃ s', I n s' ∧ ∀ m, F (m + c + 1) s (i : Int) = K s') ∨ ∃ v, E v ∧ ∀ m, F (m + c + 1) s (i : Int) = v
 | 0, i, s, h, hi => by
  obtain rfl : i = n := by omega
  exact .inl ⟨s, hi, fun m => stop m s hi⟩
 | c + 1, i, s, h, hi => by
  rcases step s i (by omega) hi with ⟨s', h1, h2⟩ | ⟨v, h1, h2⟩
  ·rcases rounds F K n I E stop step c (i + 1) s' (by omega) h1 with ⟨t, a, b⟩ | ⟨v, a, b⟩
   ·exact .inl ⟨t, a, fun m => by rw [show m + (c + 1) + 1 = (m + c + 1) + 1 by omega, h2]; exact b m⟩
   ·exact .inr ⟨v, a, fun m => by rw [show m + (c + 1) + 1 = (m + c + 1) + 1 by omega, h2]; exact b m⟩
  ·exact .inr ⟨v, h1, fun m => h2 (m + (c + 1))⟩
theorem rounds_lim {σ β : Type} (F : Nat → σ → Int → Option β) (K : σ → Option β) (n : Nat) (I : Nat → σ → Prop) (E : Option β → Prop) (s : σ) (h0 : I 0 s)
  (stop : ∀ m s, I n s → F (m + 1) s (n : Int) = K s)
  (step : ∀ s (i : Nat), i < n → I i s → (∃ s', I (i + 1) s' ∧ ∀ m, F (m + 1) s (i : Int) = F m s' ((i + 1 : Nat) : Int)) ∨ ∃ v, E v ∧ ∀ m, F (m + 1) s (i : Int) = v) :
  (∃ s', I n s' ∧ lim (fun k => F k s 0) = K s') ∨ ∃ v, E v ∧ lim (fun k => F k s 0) = v := by
 rcases rounds F K n I E stop step n 0 s (by omega) h0 with ⟨t, a, b⟩ | ⟨v, a, b⟩
 ·exact .inl ⟨t, a, lim_add (n + 1) fun m => b m⟩
 ·exact .inr ⟨v, a, lim_add (n + 1) fun m => b m⟩
/-- rounds that all go on -/
theorem rounds_all {σ β : Type} (F : Nat → σ → Int → Option β) (K : σ → Option β) (n : Nat) (I : Nat → σ → Prop) (s : σ) (h0 : I 0 s)
  (stop : ∀ m s, I n s → F (m + 1) s (n : Int) = K s)
  (step : ∀ s (i : Nat), i < n → I i s → ∃ s', I (i + 1) s' ∧ ∀ m, F (m + 1) s (i : Int) = F m s' ((i + 1 : Nat) : Int)) :
  ∃ s', I n s' ∧ lim (fun k => F k s 0) = K s' := by
 rcases rounds_lim F K n I (fun _ => False) s h0 stop (fun s i a b => .inl (step s i a b)) with h | ⟨_, h, _⟩
 ·exact h
 ·exact h.elim
theorem wi_next {i n : Nat} (h : i < n) (hn : n ≤ 9223372036854775807) : wi ((i : Int) + 1) = ((i + 1 : Nat) : Int) := by
 rw [wi_id (by omega) (by omega)]; omega
theorem lt_pos {i n : Nat} (h : i < n) : decide ((i : Int) < (n : Int)) = true := by simp only [decide_eq_true_eq]; omega
theorem lt_neg (n : Nat) : ¬ decide ((n : Int) < (n : Int)) = true := by simp
theorem take_succ_get {α : Type} {l : List α} {i : Nat} (h : i < l.length) : l.take (i + 1) = l.take i ++ [l[i]] := by
 rw [List.take_add_one, List.getElem?_eq_getElem h]; rfl
theorem take_all {α : Type} (l : List α) : l.take l.length = l := List.take_length
end Go.Proofs.YtoomjemboekooaaBv
/- The check of a loop: which are right. No program is in sight. -/
namespace Go.Proofs.YtoomjemboekooaaBv
open Go
set_option linter.unusedSimpArgs false
set_option linter.unusedVariables false
def idsOf (q : TJLoop) : List Int := q.Tasks.map (·.ID) ++ q.Smalls.map (·.ID) ++ q.Timers.map (·.ID)
def tLt (a b : TJTimer) : Prop := a.At < b.At ∨ (a.At = b.At ∧ a.ID < b.ID)
theorem tLt_trans {a b c : TJTimer} (h1 : tLt a b) (h2 : tLt b c) : tLt a c := by unfold tLt at *; omega
structure Short (q : TJLoop) : Prop where
 l1 : q.Tasks.length ≤ 100
 l2 : q.Smalls.length ≤ 100
 l3 : q.Timers.length ≤ 100
def taskOK (j : TJJob) : Prop := 1 ≤ j.Source ∧ j.Source ≤ 4 ∧ j.Small = false
def smallOK (j : TJJob) : Prop := j.Source = 0 ∧ j.Small = true
def timerOK (q : TJLoop) (t : TJTimer) : Prop := q.Now ≤ t.At ∧ t.At ≤ 1000000000 ∧ 0 ≤ t.Every ∧ t.Every ≤ 1000000000 ∧ 0 ≤ t.Turn ∧ t.Turn ≤ 1000000000
structure LoopOK (q : TJLoop) : Prop where
 short : Short q
 now : 0 ≤ q.Now ∧ q.Now ≤ 1000000000
 next : 0 ≤ q.Next ∧ q.Next ≤ 1000000000
 ids : ∀ n ∈ idsOf q, 0 ≤ n ∧ n < q.Next
 nodup : (idsOf q).Nodup
 tasks : ∀ j ∈ q.Tasks, taskOK j
 smalls : ∀ j ∈ q.Smalls, smallOK j
 timers : ∀ t ∈ q.Timers, timerOK q t
 sorted : q.Timers.Pairwise tLt
/-! ### the numbers -/
theorem num3 (x : List TJJob) (q : TJLoop) (v : Int) (K : List Int → Option (List Int)) (out : List Int) (hl : out.length + x.length ≤ 1000) :
  lim (fun kk => Zi x q v K kk out 0) = K (out ++ x.map (·.ID)) := by
 obtain ⟨s, hs, h⟩ := rounds_all (fun k s i => Zi x q v K k s i) K x.length (fun i s => s = out ++ (x.take i).map (·.ID)) out (by simp)
  (fun m s hs => by rw [Zi, if_neg (lt_neg _)])
  (fun s i hi hs => ⟨out ++ (x.take (i + 1)).map (·.ID), rfl, fun m => by
   have hb : app? 8 s [x[i].ID] = some (out ++ (x.take (i + 1)).map (·.ID)) := by
    rw [hs, appq (by simp; omega), take_succ_get hi, List.map_append, List.append_assoc]; rfl
   rw [Zi, if_pos (lt_pos hi), at_some hi, Option.bind_some, hb, Option.bind_some, wi_next hi (by omega)]⟩)
 rw [take_all] at hs
 rw [← hs]
 exact h
theorem num4 (q : TJLoop) (K : List Int → Option (List Int)) (out : List Int) (hl : out.length + q.Timers.length ≤ 1000) :
  lim (fun kk => Zj q K kk out 0) = K (out ++ q.Timers.map (·.ID)) := by
 obtain ⟨s, hs, h⟩ := rounds_all (fun k s i => Zj q K k s i) K q.Timers.length (fun i s => s = out ++ (q.Timers.take i).map (·.ID)) out (by simp)
  (fun m s hs => by rw [Zj, if_neg (lt_neg _)])
  (fun s i hi hs => ⟨out ++ (q.Timers.take (i + 1)).map (·.ID), rfl, fun m => by
   have hb : app? 8 s [q.Timers[i].ID] = some (out ++ (q.Timers.take (i + 1)).map (·.ID)) := by
    rw [hs, appq (by simp; omega), take_succ_get hi, List.map_append, List.append_assoc]; rfl
   rw [Zj, if_pos (lt_pos hi), at_some hi, Option.bind_some, hb, Option.bind_some, wi_next hi (by omega)]⟩)
 rw [take_all] at hs
 rw [← hs]
 exact h
theorem numbers_eq (q : TJLoop) (h : Short q) : Z1v q = some (idsOf q) := by
 have h1 := h.l1
 have h2 := h.l2
 have h3 := h.l3
 unfold Z1v
 refine lim_add 3 fun m => ?_
 rw [Zr, if_pos (by decide), show at? [q.Tasks, q.Smalls] 0 = some q.Tasks from rfl, Option.bind_some, num3 _ _ _ _ _ (by simp; omega), show wi (0 + 1) = 1 from rfl]
 rw [Zr, if_pos (by decide), show at? [q.Tasks, q.Smalls] 1 = some q.Smalls from rfl, Option.bind_some, num3 _ _ _ _ _ (by simp; omega), show wi (1 + 1) = 2 from rfl]
 rw [Zr, if_neg (by decide), num4 _ _ _ (by simp; omega)]
 rfl
/-! ### a list of numbers, each new -/
def Fresh (N : Int) (S xs : List Int) : Prop := (∀ x ∈ xs, 0 ≤ x ∧ x < N ∧ x ∉ S) ∧ xs.Nodup
theorem fresh_nil (N : Int) (S : List Int) : Fresh N S [] := ⟨fun _ h => (by cases h), List.nodup_nil⟩
theorem fresh_append {N : Int} {S xs ys : List Int} : Fresh N S (xs ++ ys) ↔ Fresh N S xs ∧ Fresh N (S ++ xs) ys := by
 unfold Fresh
 rw [List.nodup_append]
 constructor
 ·rintro ⟨h1, h2, h3, h4⟩
  refine ⟨⟨fun x hx => h1 x (List.mem_append_left _ hx), h2⟩, fun y hy => ?_, h3⟩
  obtain ⟨a, b, c⟩ := h1 y (List.mem_append_right _ hy)
  refine ⟨a, b, fun hm => ?_⟩
  rcases List.mem_append.1 hm with hm | hm
  ·exact c hm
  ·exact h4 y hm y hy rfl
 ·rintro ⟨⟨h1, h2⟩, h3, h4⟩
  refine ⟨fun x hx => ?_, h2, h4, fun a ha b hb e => ?_⟩
  ·rcases List.mem_append.1 hx with hx | hx
   ·exact h1 x hx
   ·obtain ⟨a, b, c⟩ := h3 x hx
    exact ⟨a, b, fun hm => c (List.mem_append_left _ hm)⟩
  ·subst e
   exact (h3 a hb).2.2 (List.mem_append_right _ ha)
theorem fresh_one {N : Int} {S : List Int} {x : Int} : Fresh N S [x] ↔ 0 ≤ x ∧ x < N ∧ x ∉ S := by
 unfold Fresh
 simp
theorem mget_mset {κ ν : Type} [DecidableEq κ] (k : κ) (v : ν) (x : κ) : ∀ l : List (κ × ν), mget (mset l k v) x = if x = k then some v else mget l x
 | [] => by simp only [mset, mget]
 | p :: r => by
  have ih := mget_mset k v x r
  simp only [mset]
  by_cases h : k = p.1
  ·rw [if_pos h]
   simp only [mget]
   by_cases h2 : x = k
   ·rw [if_pos h2, if_pos h2]
   ·rw [if_neg h2, if_neg h2, if_neg (by rw [← h]; exact h2)]
  ·rw [if_neg h]
   simp only [mget]
   by_cases h2 : x = p.1
   ·have h3 : ¬ x = k := by intro e; exact h (by rw [← e]; exact h2)
    rw [if_pos h2, if_neg h3, if_pos h2]
   ·rw [if_neg h2, ih]
    by_cases h3 : x = k
    ·rw [if_pos h3, if_pos h3]
    ·rw [if_neg h3, if_neg h3, if_neg h2]
theorem ids_loop (r : List Int) (q : TJLoop) (hr : r.length ≤ 1000) (hN : 0 ≤ q.Next ∧ q.Next ≤ 1000000000) (K : Unit → Option Int) :
  (Fresh q.Next [] r ∧ lim (fun kk => Za r q K kk ([] : List (Int × Int)) r 0) = K ()) ∨ (¬ Fresh q.Next [] r ∧ lim (fun kk => Za r q K kk ([] : List (Int × Int)) r 0) = some 3) := by
 rcases rounds_lim (fun k s i => Za r q K k s r i) (fun _ => K ()) r.length (fun i s => (∀ d, (mget s d).getD 0 = 1 ↔ d ∈ r.take i) ∧ Fresh q.Next [] (r.take i)) (fun v => v = some 3 ∧ ¬ Fresh q.Next [] r) []
  ⟨fun d => by simp [mget], by simpa using fresh_nil _ _⟩
  (fun m s hs => by rw [Za, if_neg (lt_neg _)])
  (fun s i hi hs => by
   have hw : wi (q.Next - 1) = q.Next - 1 := wi_id (by omega) (by omega)
   have e : r = r.take i ++ r[i] :: r.drop (i + 1) := by
    rw [← List.drop_eq_getElem_cons hi, List.take_append_drop]
   have hone : Fresh q.Next [] (r.take (i + 1)) ↔ 0 ≤ r[i] ∧ r[i] < q.Next ∧ r[i] ∉ r.take i := by
    rw [take_succ_get hi, fresh_append, List.nil_append, fresh_one]
    exact ⟨fun h => h.2, fun h => ⟨hs.2, h⟩⟩
   have hall : Fresh q.Next [] r → Fresh q.Next [] (r.take (i + 1)) := fun h => by
    rw [← List.take_append_drop (i + 1) r] at h
    exact (fresh_append.1 h).1
   by_cases hc : 0 ≤ r[i] ∧ r[i] < q.Next ∧ r[i] ∉ r.take i
   ·refine .inl ⟨mset s r[i] 1, ⟨fun d => ?_, hone.2 hc⟩, fun m => ?_⟩
    ·rw [mget_mset, take_succ_get hi, List.mem_append, List.mem_singleton]
     by_cases hd : d = r[i]
     ·rw [if_pos hd]; simp [hd]
     ·rw [if_neg hd, hs.1]; simp [hd]
    ·have h1 : ¬ (mget s r[i]).getD 0 = 1 := fun h => hc.2.2 ((hs.1 _).1 h)
     rw [Za, if_pos (lt_pos hi), at_some hi, Option.bind_some, hw, if_neg, letIn_eq, wi_next hi (by omega)]
     unfold Z1
     simp only [Bool.or_eq_true, Bool.not_eq_true', Bool.and_eq_false_iff, decide_eq_false_iff_not, decide_eq_true_eq]
     omega
   ·refine .inr ⟨some 3, ⟨rfl, fun h => hc (hone.1 (hall h))⟩, fun m => ?_⟩
    rw [Za, if_pos (lt_pos hi), at_some hi, Option.bind_some, hw, if_pos]
    unfold Z1
    simp only [Bool.or_eq_true, Bool.not_eq_true', Bool.and_eq_false_iff, decide_eq_false_iff_not, decide_eq_true_eq]
    rw [hs.1]
    by_cases hm : r[i] ∈ r.take i
    ·exact .inr hm
    ·left
     have : ¬ (0 ≤ r[i] ∧ r[i] < q.Next) := fun h => hc ⟨h.1, h.2, hm⟩
     omega) with ⟨s, ⟨_, hf⟩, h⟩ | ⟨v, ⟨rfl, hf⟩, h⟩
 ·rw [take_all] at hf
  exact .inl ⟨hf, h⟩
 ·exact .inr ⟨hf, h⟩
/-! ### tasks and small ones -/
theorem tasks_eq (l : List TJJob) (hl : l.length ≤ 1000) : ∃ b, Z1f l = some b ∧ (b = false ↔ ∀ j ∈ l, taskOK j) := by
 unfold Z1f Z2f
 rcases rounds_lim (fun k (_ : Unit) i => Zk l (fun _ => some (-1)) k i) (fun _ => some (-1)) l.length (fun i _ => ∀ j ∈ l.take i, taskOK j) (fun v => ∃ i : Nat, v = some (i : Int) ∧ ¬ ∀ j ∈ l, taskOK j) () (fun _ h => by simp at h)
  (fun m s hs => by rw [Zk, if_neg (lt_neg _)])
  (fun s i hi hs => by
   by_cases hc : taskOK l[i]
   ·refine .inl ⟨(), fun j hj => ?_, fun m => ?_⟩
    ·rw [take_succ_get hi, List.mem_append, List.mem_singleton] at hj
     rcases hj with hj | rfl
     ·exact hs j hj
     ·exact hc
    ·rw [Zk, if_pos (lt_pos hi), at_some hi, Option.bind_some, if_neg, wi_next hi (by omega)]
     obtain ⟨c1, c2, c3⟩ := hc
     unfold Z15 Z1
     simp [c1, c2, c3]
   ·refine .inr ⟨some i, ⟨i, rfl, fun h => hc (h _ (List.getElem_mem hi))⟩, fun m => ?_⟩
    rw [Zk, if_pos (lt_pos hi), at_some hi, Option.bind_some, if_pos]
    unfold Z15 Z1
    unfold taskOK at hc
    cases h : l[i].Small with
    | true => rfl
    | false =>
     rw [h] at hc
     simp only [and_true] at hc
     simp only [Bool.false_or, Bool.not_eq_true', Bool.and_eq_false_iff, decide_eq_false_iff_not]
     omega) with ⟨s, hf, h⟩ | ⟨v, ⟨i, rfl, hf⟩, h⟩
 ·rw [take_all] at hf
  exact ⟨false, by rw [h]; rfl, fun _ => hf, fun _ => rfl⟩
 ·exact ⟨true, by rw [h]; simp, fun h => (by cases h), fun h => absurd h hf⟩
theorem smalls_eq (l : List TJJob) (hl : l.length ≤ 1000) : ∃ b, Z1g l = some b ∧ (b = false ↔ ∀ j ∈ l, smallOK j) := by
 unfold Z1g Z2g
 rcases rounds_lim (fun k (_ : Unit) i => Zl l (fun _ => some (-1)) k i) (fun _ => some (-1)) l.length (fun i _ => ∀ j ∈ l.take i, smallOK j) (fun v => ∃ i : Nat, v = some (i : Int) ∧ ¬ ∀ j ∈ l, smallOK j) () (fun _ h => by simp at h)
  (fun m s hs => by rw [Zl, if_neg (lt_neg _)])
  (fun s i hi hs => by
   by_cases hc : smallOK l[i]
   ·refine .inl ⟨(), fun j hj => ?_, fun m => ?_⟩
    ·rw [take_succ_get hi, List.mem_append, List.mem_singleton] at hj
     rcases hj with hj | rfl
     ·exact hs j hj
     ·exact hc
    ·rw [Zl, if_pos (lt_pos hi), at_some hi, Option.bind_some, if_neg, wi_next hi (by omega)]
     obtain ⟨c1, c2⟩ := hc
     unfold Z16
     simp [c1, c2]
   ·refine .inr ⟨some i, ⟨i, rfl, fun h => hc (h _ (List.getElem_mem hi))⟩, fun m => ?_⟩
    rw [Zl, if_pos (lt_pos hi), at_some hi, Option.bind_some, if_pos]
    unfold Z16
    unfold smallOK at hc
    cases h : l[i].Small with
    | false => rfl
    | true =>
     rw [h] at hc
     simp only [and_true] at hc
     simp [hc]) with ⟨s, hf, h⟩ | ⟨v, ⟨i, rfl, hf⟩, h⟩
 ·rw [take_all] at hf
  exact ⟨false, by rw [h]; rfl, fun _ => hf, fun _ => rfl⟩
 ·exact ⟨true, by rw [h]; simp, fun h => (by cases h), fun h => absurd h hf⟩
/-! ### timers -/
theorem compare_eq (x y : Int) : Z9 x y = if x < y then -1 else if y < x then 1 else 0 := by
 unfold Z9 Z17
 simp
theorem or_two (x y : Int) : Z1w [x, y] = some (if x ≠ 0 then x else y) := by
 unfold Z1w
 refine lim_add 3 fun k => ?_
 have st : ∀ (m : Nat) (i v : Int), i < 2 → at? [x, y] i = some v → Zg [x, y] (fun _ => some 0) (m + 1) i = if v ≠ 0 then some v else Zg [x, y] (fun _ => some 0) m (wi (i + 1)) := by
  intro m i v hi hv
  rw [Zg, if_pos (by simp; omega), hv, Option.bind_some]
  by_cases h : v = 0 <;> simp [h]
 rw [st (k + 2) 0 x (by decide) rfl, show wi (0 + 1) = 1 from rfl, st (k + 1) 1 y (by decide) rfl, show wi (1 + 1) = 2 from rfl,
  show Zg [x, y] (fun _ => some 0) (k + 1) 2 = some 0 from by rw [Zg, if_neg (by simp)]]
 by_cases h1 : x = 0
 ·by_cases h2 : y = 0 <;> simp [h1, h2]
 ·simp [h1]
theorem before_eq (a b : TJTimer) : ∃ c, Zm a b = some c ∧ (c < 0 ↔ tLt a b) ∧ (c = 0 ↔ a.At = b.At ∧ a.ID = b.ID) := by
 unfold Zm tLt
 rw [or_two, compare_eq, compare_eq, Option.bind_some]
 refine ⟨_, rfl, ?_⟩
 by_cases h1 : a.At < b.At
 ·simp [h1]; omega
 ·by_cases h2 : b.At < a.At
  ·simp [h1, h2]; omega
  ·have : a.At = b.At := by omega
   by_cases h3 : a.ID < b.ID
   ·simp [this, h3]; omega
   ·by_cases h4 : b.ID < a.ID
    ·simp [this, h3, h4]; omega
    ·simp [this, h3, h4]; omega
theorem timers_loop (q : TJLoop) (hl : q.Timers.length ≤ 1000) (K : Unit → Option Int) :
  (((∀ t ∈ q.Timers, timerOK q t) ∧ q.Timers.Pairwise tLt) ∧ lim (fun kk => Z2 q K kk 0) = K ()) ∨ (¬ ((∀ t ∈ q.Timers, timerOK q t) ∧ q.Timers.Pairwise tLt) ∧ lim (fun kk => Z2 q K kk 0) = some 3) := by
 have := hl
 rcases rounds_lim (fun k (_ : Unit) i => Z2 q K k i) (fun _ => K ()) q.Timers.length (fun i _ => (∀ t ∈ q.Timers.take i, timerOK q t) ∧ (q.Timers.take i).Pairwise tLt) (fun v => v = some 3 ∧ ¬ ((∀ t ∈ q.Timers, timerOK q t) ∧ q.Timers.Pairwise tLt)) ()
  ⟨fun _ h => by simp at h, by simp⟩
  (fun m s hs => by rw [Z2, if_neg (lt_neg _)])
  (fun s i hi hs => by
   by_cases hc : timerOK q q.Timers[i]
   ·have hn : ∀ m, Z2 q K (m + 1) (i : Int) = if decide (0 < (i : Int)) then
      (at? q.Timers (wi ((i : Int) - 1))).bind fun x_2 => (Zm x_2 q.Timers[i]).bind fun r_3 => Zn (i : Int) q (Z2 q K m) K (decide (0 ≤ r_3))
      else Zn (i : Int) q (Z2 q K m) K false := fun m => by
     rw [Z2, if_pos (lt_pos hi), at_some hi, Option.bind_some, if_neg]
     obtain ⟨c1, c2, c3, c4, c5, c6⟩ := hc
     unfold Z1
     simp [c1, c2, c3, c4, c5, c6]
    have hf : ∀ t ∈ q.Timers.take (i + 1), timerOK q t := fun t ht => by
     rw [take_succ_get hi, List.mem_append, List.mem_singleton] at ht
     rcases ht with ht | rfl
     ·exact hs.1 t ht
     ·exact hc
    by_cases h0 : 0 < i
    ·have hp : i - 1 < q.Timers.length := by omega
     obtain ⟨c, e1, e2, _⟩ := before_eq q.Timers[i - 1] q.Timers[i]
     have hat : at? q.Timers (wi ((i : Int) - 1)) = some q.Timers[i - 1] := by
      rw [wi_id (by omega) (by omega), show (i : Int) - 1 = ((i - 1 : Nat) : Int) by omega, at_some hp]
     by_cases hlt : tLt q.Timers[i - 1] q.Timers[i]
     ·refine .inl ⟨(), ⟨hf, ?_⟩, fun m => ?_⟩
      ·rw [take_succ_get hi, List.pairwise_append]
       refine ⟨hs.2, by simp, fun a ha b hb => ?_⟩
       rw [List.mem_singleton] at hb
       subst hb
       obtain ⟨j, hj, rfl⟩ := List.mem_iff_getElem.1 ha
       rw [List.length_take] at hj
       rw [List.getElem_take]
       by_cases e : j = i - 1
       ·subst e; exact hlt
       ·have hpw := List.pairwise_iff_getElem.1 hs.2 j (i - 1) (by rw [List.length_take]; omega) (by rw [List.length_take]; omega) (by omega)
        rw [List.getElem_take, List.getElem_take] at hpw
        exact tLt_trans hpw hlt
      ·rw [hn, if_pos (by simp only [decide_eq_true_eq]; omega), hat, Option.bind_some, e1, Option.bind_some]
       unfold Zn
       rw [if_neg (by have := e2.2 hlt; simp only [decide_eq_true_eq]; omega), wi_next hi (by omega)]
     ·refine .inr ⟨some 3, ⟨rfl, fun h => hlt (List.pairwise_iff_getElem.1 h.2 (i - 1) i hp hi (by omega))⟩, fun m => ?_⟩
      rw [hn, if_pos (by simp only [decide_eq_true_eq]; omega), hat, Option.bind_some, e1, Option.bind_some]
      unfold Zn
      rw [if_pos]
      have : ¬ c < 0 := fun h => hlt (e2.1 h)
      simp only [decide_eq_true_eq]; omega
    ·obtain rfl : i = 0 := by omega
     refine .inl ⟨(), ⟨hf, ?_⟩, fun m => ?_⟩
     ·rw [take_succ_get hi]; simp
     ·rw [hn, if_neg (by simp)]
      unfold Zn
      rw [if_neg (by simp), wi_next hi (by omega)]
   ·refine .inr ⟨some 3, ⟨rfl, fun h => hc (h.1 _ (List.getElem_mem hi))⟩, fun m => ?_⟩
    rw [Z2, if_pos (lt_pos hi), at_some hi, Option.bind_some, if_pos]
    ·unfold Zn
     rw [if_pos rfl]
    ·unfold timerOK at hc
     unfold Z1
     simp only [Bool.or_eq_true, Bool.not_eq_true', Bool.and_eq_false_iff, decide_eq_false_iff_not]
     omega) with ⟨s, hf, h⟩ | ⟨v, ⟨rfl, hf⟩, h⟩
 ·rw [take_all] at hf
  exact .inl ⟨hf, h⟩
 ·exact .inr ⟨hf, h⟩
theorem fresh_ids {q : TJLoop} : Fresh q.Next [] (idsOf q) ↔ (∀ n ∈ idsOf q, 0 ≤ n ∧ n < q.Next) ∧ (idsOf q).Nodup := by
 unfold Fresh
 simp
theorem check_eq (q : TJLoop) : ∃ c, Z1h q = some c ∧ (¬ Short q → c = 2) ∧ (Short q → LoopOK q → c = 0) ∧ (Short q → ¬ LoopOK q → c = 3) := by
 unfold Z1h
 rw [letIn_eq]
 by_cases hs : Short q
 ·have s1 := hs.l1
  have s2 := hs.l2
  have s3 := hs.l3
  have hmx : ∀ x y : Int, mx x y = max x y := fun x y => by unfold mx; omega
  rw [if_neg (by rw [hmx, hmx]; simp only [decide_eq_true_eq]; omega)]
  by_cases hn : (0 ≤ q.Now ∧ q.Now ≤ 1000000000) ∧ 0 ≤ q.Next ∧ q.Next ≤ 1000000000
  ·have hlen : (idsOf q).length ≤ 1000 := by unfold idsOf; simp; omega
   obtain ⟨b1, e1, f1⟩ := tasks_eq q.Tasks (by omega)
   obtain ⟨b2, e2, f2⟩ := smalls_eq q.Smalls (by omega)
   rw [if_neg (by obtain ⟨⟨a, b⟩, c, d⟩ := hn; unfold Z1; simp [a, b, c, d]), numbers_eq q hs, Option.bind_some]
   rcases ids_loop (idsOf q) q hlen hn.2 (fun (_ : Unit) =>
     (Z1f q.Tasks).bind fun r_1 =>
     if r_1 then
      some 3
     else
      (Z1g q.Smalls).bind fun r_2 =>
      if r_2 then
       some 3
      else
       lim fun kk => Z2 q (fun (_ : Unit) =>
         some 0) kk 0) with ⟨hf, h⟩ | ⟨hf, h⟩
   ·rw [h, e1, Option.bind_some, e2, Option.bind_some]
    cases b1 with
    | true =>
     refine ⟨3, rfl, fun h => absurd hs h, fun _ h => ?_, fun _ _ => rfl⟩
     exact absurd (f1.2 h.tasks) (by simp)
    | false =>
     cases b2 with
     | true =>
      refine ⟨3, rfl, fun h => absurd hs h, fun _ h => ?_, fun _ _ => rfl⟩
      exact absurd (f2.2 h.smalls) (by simp)
     | false =>
      rcases timers_loop q (by omega) (fun _ => some 0) with ⟨ht, h2⟩ | ⟨ht, h2⟩
      ·refine ⟨0, by rw [if_neg (by simp), if_neg (by simp), h2], fun h => absurd hs h, fun _ _ => rfl, fun _ h => absurd ?_ h⟩
       have hi := fresh_ids.1 hf
       exact ⟨hs, hn.1, hn.2, hi.1, hi.2, f1.1 rfl, f2.1 rfl, ht.1, ht.2⟩
      ·exact ⟨3, by rw [if_neg (by simp), if_neg (by simp), h2], fun h => absurd hs h, fun _ h => absurd ⟨h.timers, h.sorted⟩ ht, fun _ _ => rfl⟩
   ·exact ⟨3, h, fun h => absurd hs h, fun _ h => absurd (fresh_ids.2 ⟨h.ids, h.nodup⟩) hf, fun _ _ => rfl⟩
  ·refine ⟨3, ?_, fun h => absurd hs h, fun _ h => absurd ⟨h.now, h.next⟩ hn, fun _ _ => rfl⟩
   rw [if_pos]
   unfold Z1
   simp only [Bool.or_eq_true, Bool.not_eq_true', Bool.and_eq_false_iff, decide_eq_false_iff_not]
   omega
 ·refine ⟨2, ?_, fun _ => rfl, fun h => absurd h hs, fun h => absurd h hs⟩
  rw [if_pos]
  have hmx : ∀ x y : Int, mx x y = max x y := fun x y => by unfold mx; omega
  rw [hmx, hmx]
  simp only [decide_eq_true_eq]
  rcases Nat.lt_or_ge 100 q.Tasks.length with h | h
  ·omega
  ·rcases Nat.lt_or_ge 100 q.Smalls.length with h2 | h2
   ·omega
   ·rcases Nat.lt_or_ge 100 q.Timers.length with h3 | h3
    ·omega
    ·exact absurd ⟨h, h2, h3⟩ hs
end Go.Proofs.YtoomjemboekooaaBv
/- What is asked of a loop: the program's answer is the document's, and a loop stays right. No program is in sight. -/
namespace Go.Proofs.YtoomjemboekooaaBv
open Go
set_option linter.unusedSimpArgs false
set_option linter.unusedVariables false
/-- where a timer belongs -/
def pla (l : List TJTimer) (t : TJTimer) : Nat → Prop := fun p => p ≤ l.length ∧ (∀ (i : Nat) (h : i < l.length), i < p → ¬ tLt t l[i]) ∧ ∀ h : p < l.length, tLt t l[p]
theorem pla_uniq {l : List TJTimer} {t : TJTimer} {p q : Nat} (hp : pla l t p) (hq : pla l t q) : p = q := by
 rcases Nat.lt_trichotomy p q with h | h | h
 ·exact absurd (hp.2.2 (by have := hq.1; omega)) (hq.2.1 p (by have := hq.1; omega) h)
 ·exact h
 ·exact absurd (hq.2.2 (by have := hp.1; omega)) (hp.2.1 q (by have := hp.1; omega) h)
open Classical in
theorem pla_ex (t : TJTimer) : ∀ l : List TJTimer, ∃ p, pla l t p
 | [] => ⟨0, Nat.le_refl _, fun i h => by simp at h, fun h => by simp at h⟩
 | x :: r => by
  by_cases h : tLt t x
  ·exact ⟨0, Nat.zero_le _, fun i _ h => by omega, fun _ => h⟩
  ·obtain ⟨p, a, b, c⟩ := pla_ex t r
   refine ⟨p + 1, by simp; omega, fun i hi hp => ?_, fun h => ?_⟩
   ·cases i with
    | zero => exact h
    | succ i => simpa using b i (by simpa using hi) (by omega)
   ·simpa using c (by simpa using h)
theorem tLt_dec (t s : TJTimer) : ((decide (t.At < s.At)) || ((decide (s.At = t.At)) && (decide (t.ID < s.ID)))) = true ↔ tLt t s := by
 unfold tLt
 simp
 omega
theorem placed_eq (l : List TJTimer) (t : TJTimer) (hl : l.length ≤ 200) (p : Nat) (hp : pla l t p) : Z1d l t = some (l.take p ++ [t] ++ l.drop p) := by
 unfold Z1d
 obtain ⟨s, hs, h⟩ := rounds_all (fun k (s : List TJTimer × Bool) i => Zd l t (fun (out1 : (List TJTimer)) (done1 : Bool) =>
   if (!done1) then
    (app? 48 out1 [t]).bind fun r_2 =>
    Zx r_2
   else
    Zx out1) k s.1 s.2 i) (fun s =>
   if (!s.2) then
    (app? 48 s.1 [t]).bind fun r_2 =>
    Zx r_2
   else
    Zx s.1) l.length (fun i s => (i ≤ p ∧ s = (l.take i, false)) ∨ (p < i ∧ s = (l.take p ++ [t] ++ (l.take i).drop p, true))) ([], false)
  (.inl ⟨Nat.zero_le _, by simp⟩)
  (fun m s hs => by rw [Zd, if_neg (lt_neg _)])
  (fun s i hi hs => by
   have dr : ∀ (h : p ≤ i), (l.take (i + 1)).drop p = (l.take i).drop p ++ [l[i]] := fun h => by
    rw [take_succ_get hi, List.drop_append_of_le_length (by rw [List.length_take]; omega)]
   rcases hs with ⟨h1, rfl⟩ | ⟨h1, rfl⟩
   ·by_cases hlt : tLt t l[i]
    ·have e : i = p := by
      rcases Nat.lt_or_ge i p with h | h
      ·exact absurd hlt (hp.2.1 i hi h)
      ·omega
     subst e
     refine ⟨(l.take i ++ [t] ++ (l.take (i + 1)).drop i, true), .inr ⟨by omega, rfl⟩, fun m => ?_⟩
     rw [Zd, if_pos (lt_pos hi), at_some hi, Option.bind_some, if_pos (by rw [Bool.and_eq_true]; exact ⟨rfl, (tLt_dec _ _).2 hlt⟩), appq (by simp; omega), Option.bind_some]
     unfold Z1c
     rw [appq (by simp; omega), Option.bind_some, wi_next hi (by omega), dr (Nat.le_refl _)]
     simp
    ·have hne : i < p := by
      rcases Nat.lt_or_ge i p with h | h
      ·exact h
      ·have e : i = p := by omega
       subst e
       exact absurd (hp.2.2 hi) hlt
     refine ⟨(l.take (i + 1), false), .inl ⟨by omega, rfl⟩, fun m => ?_⟩
     rw [Zd, if_pos (lt_pos hi), at_some hi, Option.bind_some, if_neg (by rw [Bool.and_eq_true]; exact fun h => hlt ((tLt_dec _ _).1 h.2))]
     unfold Z1c
     rw [appq (by simp; omega), Option.bind_some, wi_next hi (by omega), take_succ_get hi]
   ·refine ⟨(l.take p ++ [t] ++ (l.take (i + 1)).drop p, true), .inr ⟨by omega, rfl⟩, fun m => ?_⟩
    rw [Zd, if_pos (lt_pos hi), at_some hi, Option.bind_some, if_neg (by simp)]
    unfold Z1c
    rw [appq (by simp; omega), Option.bind_some, wi_next hi (by omega), dr (by omega)]
    simp)
 refine h.trans ?_
 rcases hs with ⟨h1, rfl⟩ | ⟨h1, rfl⟩
 ·have e : p = l.length := by have := hp.1; omega
  subst e
  rw [if_pos (by simp)]
  show (app? 48 (l.take l.length) [t]).bind _ = _
  rw [appq (by simp; omega), Option.bind_some]
  unfold Zx
  simp
 ·rw [if_neg (by simp)]
  unfold Zx
  rw [take_all]
/-! ### halving -/
theorem mid_eq {x y : Nat} (h : x + y < 100000) : wr .i64 (shr .u64 (wr .u64 (wi ((x : Int) + (y : Int)))) 1) = (((x + y) / 2 : Nat) : Int) := by
 rw [wi_id (by omega) (by omega), wr_u64, wr_i64]
 have e : ((x : Int) + (y : Int)) % 18446744073709551616 = ((x + y : Nat) : Int) := by omega
 rw [e]
 have e2 : shr .u64 ((x + y : Nat) : Int) 1 = (((x + y) / 2 : Nat) : Int) := by
  show Int.fdiv ((x + y : Nat) : Int) 2 = _
  rw [Int.fdiv_eq_ediv_of_nonneg _ (by decide)]
  omega
 rw [e2, wi_id (by omega) (by omega)]
theorem halves (l : List TJTimer) (t : TJTimer) (hl : l.length ≤ 200) (K : Int → Option (Int × Bool)) (p : Nat) (hpl : p ≤ l.length) (hlow : ∀ (i : Nat) (h : i < l.length), i < p → tLt l[i] t) (hhigh : ∀ (i : Nat) (h : i < l.length), p ≤ i → ¬ tLt l[i] t) :
  ∀ (d i j : Nat), i ≤ p → p ≤ j → j ≤ l.length → j - i ≤ d → ∀ m, Zb l t K (m + d + 1) (i : Int) (j : Int) = K (p : Int)
 | 0, i, j, h1, h2, h3, h4, m => by
  have e1 : i = p := by omega
  have e2 : j = p := by omega
  subst e1 e2
  rw [Zb, if_neg (by simp)]
 | d + 1, i, j, h1, h2, h3, h4, m => by
  by_cases hij : i < j
  ·have hk : (i + j) / 2 < l.length := by omega
   obtain ⟨c, e1, e2, _⟩ := before_eq l[(i + j) / 2] t
   rw [Zb, if_pos (by simp only [decide_eq_true_eq]; omega), mid_eq (by omega), at_some hk, Option.bind_some, e1, Option.bind_some]
   by_cases hc : (i + j) / 2 < p
   ·rw [if_pos (by simp only [decide_eq_true_eq]; exact e2.2 (hlow _ hk hc)), wi_id (by omega) (by omega), show (((i + j) / 2 : Nat) : Int) + 1 = (((i + j) / 2 + 1 : Nat) : Int) by omega, show m + (d + 1) = m + d + 1 by omega]
    exact halves l t hl K p hpl hlow hhigh d _ j (by omega) h2 h3 (by omega) m
   ·rw [if_neg (by simp only [decide_eq_true_eq]; exact fun h => hhigh _ hk (by omega) (e2.1 h)), show m + (d + 1) = m + d + 1 by omega]
    exact halves l t hl K p hpl hlow hhigh d i _ h1 (by omega) (by omega) (by omega) m
  ·rw [Zb, if_neg (by simp only [decide_eq_true_eq]; omega), show (i : Int) = (p : Int) by omega]
theorem lay_eq (l : List TJTimer) (t : TJTimer) (hl : l.length ≤ 200) (hs : l.Pairwise tLt) (hne : ∀ s ∈ l, s.ID ≠ t.ID) (p : Nat) (hp : pla l t p) : Z1k l t = some (l.take p ++ [t] ++ l.drop p) := by
 have tot : ∀ s ∈ l, ¬ tLt t s → tLt s t := fun s hm h => by
  have := hne s hm
  unfold tLt at *
  omega
 have asym : ∀ a b, tLt a b → ¬ tLt b a := fun a b h h2 => by unfold tLt at *; omega
 have hlow : ∀ (i : Nat) (h : i < l.length), i < p → tLt l[i] t := fun i h hi => tot _ (List.getElem_mem h) (hp.2.1 i h hi)
 have hhigh : ∀ (i : Nat) (h : i < l.length), p ≤ i → ¬ tLt l[i] t := fun i h hi => by
  by_cases e : p = i
  ·subst e; exact asym _ _ (hp.2.2 h)
  ·have h1 := hp.2.2 (by omega)
   have h2 := List.pairwise_iff_getElem.1 hs p i (by omega) h (by omega)
   exact asym _ _ (tLt_trans h1 h2)
 unfold Z1k Z2i
 have hb : ∃ b, lim (fun kk => Zb l t (fun (i_1 : Int) =>
   if decide (i_1 < (l.length : Int)) then
    (at? l i_1).bind fun x_2 =>
    (Zm x_2 t).bind fun r_1 =>
    Zs i_1 (decide (r_1 = 0))
   else
    Zs i_1 false) kk 0 (l.length : Int)) = some ((p : Int), b) := by
  by_cases h : p < l.length
  ·obtain ⟨c, e1, e2, _⟩ := before_eq l[p] t
   refine ⟨decide (c = 0), lim_add (l.length + 1) fun m => ?_⟩
   have := halves l t hl (fun (i_1 : Int) =>
    if decide (i_1 < (l.length : Int)) then
     (at? l i_1).bind fun x_2 =>
     (Zm x_2 t).bind fun r_1 =>
     Zs i_1 (decide (r_1 = 0))
    else
     Zs i_1 false) p hp.1 hlow hhigh l.length 0 l.length (Nat.zero_le _) hp.1 (Nat.le_refl _) (by omega) m
   refine this.trans ?_
   rw [if_pos (lt_pos h), at_some h, Option.bind_some, e1, Option.bind_some]
   rfl
  ·refine ⟨false, lim_add (l.length + 1) fun m => ?_⟩
   have := halves l t hl (fun (i_1 : Int) =>
    if decide (i_1 < (l.length : Int)) then
     (at? l i_1).bind fun x_2 =>
     (Zm x_2 t).bind fun r_1 =>
     Zs i_1 (decide (r_1 = 0))
    else
     Zs i_1 false) p hp.1 hlow hhigh l.length 0 l.length (Nat.zero_le _) hp.1 (Nat.le_refl _) (by omega) m
   refine this.trans ?_
   rw [if_neg (by simp only [decide_eq_true_eq]; omega)]
   rfl
 obtain ⟨b, hb⟩ := hb
 have hpl := hp.1
 rw [hb, Option.bind_some]
 unfold Z2w
 show (ins? 48 l (p : Int) t).bind _ = _
 rw [ins_some (by omega) (by omega) (by omega), Option.bind_some, Int.toNat_natCast]
/-! ### timers that are laid: still in order, still of their own numbers -/
theorem laid_mem {l : List TJTimer} {t x : TJTimer} {p : Nat} : x ∈ l.take p ++ [t] ++ l.drop p ↔ x = t ∨ x ∈ l := by
 rw [List.append_assoc, List.mem_append, List.mem_append, List.mem_singleton]
 conv => rhs; rw [← List.take_append_drop p l, List.mem_append]
 constructor
 ·rintro (h | h | h)
  ·exact .inr (.inl h)
  ·exact .inl h
  ·exact .inr (.inr h)
 ·rintro (h | h | h)
  ·exact .inr (.inl h)
  ·exact .inl h
  ·exact .inr (.inr h)
theorem laid_perm (l : List TJTimer) (t : TJTimer) (p : Nat) : (l.take p ++ [t] ++ l.drop p).Perm (l ++ [t]) := by
 have h1 : (l.take p ++ [t] ++ l.drop p).Perm (l.take p ++ (l.drop p ++ [t])) := by
  rw [List.append_assoc]
  exact List.Perm.append_left _ List.perm_append_comm
 rw [← List.append_assoc, List.take_append_drop] at h1
 exact h1
theorem laid_sorted {l : List TJTimer} {t : TJTimer} (hs : l.Pairwise tLt) (hne : ∀ s ∈ l, s.ID ≠ t.ID) {p : Nat} (hp : pla l t p) : (l.take p ++ [t] ++ l.drop p).Pairwise tLt := by
 have tot : ∀ s ∈ l, ¬ tLt t s → tLt s t := fun s hm h => by
  have := hne s hm
  unfold tLt at *
  omega
 have hlow : ∀ a ∈ l.take p, tLt a t := fun a ha => by
  obtain ⟨i, hi, rfl⟩ := List.mem_iff_getElem.1 ha
  rw [List.length_take] at hi
  rw [List.getElem_take]
  exact tot _ (List.getElem_mem _) (hp.2.1 i (by omega) (by omega))
 have hhigh : ∀ b ∈ l.drop p, tLt t b := fun b hb => by
  obtain ⟨i, hi, rfl⟩ := List.mem_iff_getElem.1 hb
  rw [List.length_drop] at hi
  rw [List.getElem_drop]
  by_cases e : i = 0
  ·subst e; exact hp.2.2 (by omega)
  ·exact tLt_trans (hp.2.2 (by omega)) (List.pairwise_iff_getElem.1 hs p (p + i) (by omega) (by omega) (by omega))
 rw [List.append_assoc, List.pairwise_append]
 refine ⟨hs.sublist (List.take_sublist _ _), ?_, fun a ha b hb => ?_⟩
 ·rw [List.singleton_append, List.pairwise_cons]
  exact ⟨hhigh, hs.sublist (List.drop_sublist _ _)⟩
 ·rw [List.singleton_append, List.mem_cons] at hb
  rcases hb with rfl | hb
  ·exact hlow a ha
  ·exact tLt_trans (hlow a ha) (hhigh b hb)
theorem fn1_eq (e : Int) : Z0 e = ((⟨0, 0, [], [], []⟩ : TJLoop), 0, e) := rfl
theorem within_iff (n a b : Int) : Z1 n a b = true ↔ a ≤ n ∧ n ≤ b := by unfold Z1; simp
theorem betw_within (n a b : Int) : Z3 n a b = Z1 n a b := rfl
theorem full_room (q : TJLoop) (a : TJAsk) (n : Nat) (h : 0 ≤ q.Next ∧ q.Next ≤ 1000000000) : Zy ⟨q, a⟩ (n : Int) = !(Z6 (n : Int) q.Now q.Next q.Tasks q.Smalls q.Timers) := by
 unfold Zy Z6
 rw [Bool.eq_iff_iff]
 simp only [Bool.or_eq_true, decide_eq_true_eq, Bool.not_eq_true', Bool.and_eq_false_iff, decide_eq_false_iff_not]
 show _ ∨ q.Next = _ ↔ _
 omega
theorem room_iff (q : TJLoop) (n : Nat) : Z6 (n : Int) q.Now q.Next q.Tasks q.Smalls q.Timers = true ↔ n < 100 ∧ q.Next < 1000000000 := by
 unfold Z6
 simp
 omega
/-! ### what a loop stays that has one more -/
theorem ids_new {q : TJLoop} (h : LoopOK q) : q.Next ∉ idsOf q := fun hm => by have := (h.ids _ hm).2; omega
theorem ok_next {q p : TJLoop} (h : LoopOK q) (hn : q.Next < 1000000000) (hs : Short p) (e1 : p.Now = q.Now) (e2 : p.Next = q.Next + 1) (hp : (idsOf p).Perm (q.Next :: idsOf q)) (ht : ∀ j ∈ p.Tasks, taskOK j) (hsm : ∀ j ∈ p.Smalls, smallOK j) (htm : ∀ t ∈ p.Timers, timerOK q t) (hso : p.Timers.Pairwise tLt) : LoopOK p := by
 have h0 := h.next
 refine ⟨hs, by rw [e1]; exact h.now, by rw [e2]; omega, fun n hn => ?_, ?_, ht, hsm, fun t ht => ?_, hso⟩
 ·rw [e2]
  rcases List.mem_cons.1 (hp.mem_iff.1 hn) with rfl | hm
  ·omega
  ·have := h.ids n hm; omega
 ·exact hp.nodup_iff.2 (List.nodup_cons.2 ⟨ids_new h, h.nodup⟩)
 ·have := htm t ht
  unfold timerOK at *
  rw [e1]; exact this
end Go.Proofs.YtoomjemboekooaaBv
/- Asking of a loop. No program is in sight. -/
namespace Go.Proofs.YtoomjemboekooaaBv
open Go
set_option linter.unusedSimpArgs false
set_option linter.unusedVariables false
def qz : TJLoop := ⟨0, 0, [], [], []⟩
theorem clone1 (l : List TJJob) (h : l.length ≤ 1000) : Zz l = some l := by
 unfold Zz
 rw [appq (by simp; omega)]; rfl
theorem clone2 (l : List TJTimer) (h : l.length ≤ 1000) : Z1x l = some l := by
 unfold Z1x
 rw [appq (by simp; omega)]; rfl
theorem copied_eq (q : TJLoop) (h : Short q) : Z1y q = some q := by
 have h1 := h.l1
 have h2 := h.l2
 have h3 := h.l3
 unfold Z1y
 rw [clone1 _ (by omega), Option.bind_some, clone1 _ (by omega), Option.bind_some, clone2 _ (by omega), Option.bind_some]
theorem check_ok {q : TJLoop} (h : LoopOK q) : Z1h q = some 0 := by
 obtain ⟨c, e, _, h2, _⟩ := check_eq q
 rw [e, h2 h.short h]
def fin (r : TJLoop × Int × Int) : TJLoop × Int × Int := if r.2.2 = 0 then (r.1, r.2.1, 0) else (qz, 0, r.2.2)
theorem ask_of {q : TJLoop} {a : TJAsk} (h : LoopOK q) (hd : 1 ≤ a.Do ∧ a.Do ≤ 5) {r : TJLoop × Int × Int} (hr : Zt ⟨q, a⟩ = some r) : Zu q a = some (fin r) := by
 unfold Zu fin
 rw [check_ok h, Option.bind_some, if_neg (by simp), if_neg (by simp [within_iff, hd]), copied_eq q h.short, Option.bind_some, hr, Option.bind_some]
 by_cases e : r.2.2 = 0
 ·rw [if_neg (by simpa using e), if_pos e]
 ·rw [if_pos (by simpa using e), if_neg e]; rfl
theorem perm_tasks (q : TJLoop) (j : TJJob) (N : Int) (X : Int) (hj : j.ID = X) : (idsOf ⟨q.Now, N, q.Tasks ++ [j], q.Smalls, q.Timers⟩).Perm (X :: idsOf q) := by
 subst hj
 unfold idsOf
 simp only [List.map_append, List.map_cons, List.map_nil, List.append_assoc]
 exact List.perm_middle
theorem perm_smalls (q : TJLoop) (j : TJJob) (N : Int) (X : Int) (hj : j.ID = X) : (idsOf ⟨q.Now, N, q.Tasks, q.Smalls ++ [j], q.Timers⟩).Perm (X :: idsOf q) := by
 subst hj
 unfold idsOf
 simp only [List.map_append, List.map_cons, List.map_nil, List.append_assoc]
 exact (List.Perm.append_left _ List.perm_middle).trans List.perm_middle
theorem perm_timers (q : TJLoop) (t : TJTimer) (N : Int) (X : Int) (hj : t.ID = X) (M : Int) (A B : List TJJob) (l : List TJTimer) (p : Nat) : (idsOf ⟨M, N, A, B, l.take p ++ [t] ++ l.drop p⟩).Perm (X :: (A.map (·.ID) ++ B.map (·.ID) ++ l.map (·.ID))) := by
 subst hj
 unfold idsOf
 have h1 := (laid_perm l t p).map (·.ID)
 refine (List.Perm.append_left _ h1).trans ?_
 simp only [List.map_append, List.map_cons, List.map_nil]
 rw [← List.append_assoc]
 exact List.perm_append_comm
theorem post_eq {q : TJLoop} {a : TJAsk} (h : LoopOK q) (small : Bool) : ∃ r, Z1j ⟨q, a⟩ small = some r ∧ (a.Do = (if small then 2 else 1) → Z8 q a = some (fin r)) ∧ (r.2.2 = 0 → LoopOK r.1) := by
 have h0 := h.next
 have s1 := h.short.l1
 have s2 := h.short.l2
 have s3 := h.short.l3
 unfold Z1j
 cases small with
 | true =>
  rw [if_pos rfl, full_room q a _ h0]
  by_cases hr : Z6 (q.Smalls.length : Int) q.Now q.Next q.Tasks q.Smalls q.Timers = true
  ·have hr' := (room_iff _ _).1 hr
   rw [if_neg (by simp [hr]), appq (by simp; omega), Option.bind_some]
   refine ⟨_, rfl, fun e => ?_, fun _ => ?_⟩
   ·have e : a.Do = 2 := e
    unfold Z8
    rw [if_neg (by simp [e]), if_pos (by simp [e]), letIn_eq, hr, if_neg (by simp), clone1 _ (by omega), Option.bind_some, appq (by simp; omega), Option.bind_some]
    rfl
   ·refine ok_next h hr'.2 ⟨s1, by simp; omega, s3⟩ rfl (show wi (q.Next + 1) = q.Next + 1 from wi_id (by omega) (by omega)) (perm_smalls q _ _ _ rfl) h.tasks (fun j hj => ?_) h.timers h.sorted
    rcases List.mem_append.1 hj with hj | hj
    ·exact h.smalls j hj
    ·rw [List.mem_singleton] at hj; subst hj; exact ⟨rfl, rfl⟩
  ·rw [if_pos (by simp [hr])]
   refine ⟨_, rfl, fun e => ?_, fun e => by cases e⟩
   have e : a.Do = 2 := e
   unfold Z8
   rw [if_neg (by simp [e]), if_pos (by simp [e]), letIn_eq, if_pos (by simp [hr])]
   rfl
 | false =>
  rw [if_neg (by simp)]
  by_cases hw : Z1 a.Source 1 4 = true
  ·rw [if_neg (by simp [hw]), full_room q a _ h0]
   have hw' := (within_iff _ _ _).1 hw
   by_cases hr : Z6 (q.Tasks.length : Int) q.Now q.Next q.Tasks q.Smalls q.Timers = true
   ·have hr' := (room_iff _ _).1 hr
    rw [if_neg (by simp [hr]), appq (by simp; omega), Option.bind_some]
    refine ⟨_, rfl, fun e => ?_, fun _ => ?_⟩
    ·have e : a.Do = 1 := e
     unfold Z8
     rw [if_pos (by simp [e]), betw_within, hw, if_neg (by simp), letIn_eq, hr, if_neg (by simp), clone1 _ (by omega), Option.bind_some, appq (by simp; omega), Option.bind_some]
     rfl
    ·refine ok_next h hr'.2 ⟨by simp; omega, s2, s3⟩ rfl (show wi (q.Next + 1) = q.Next + 1 from wi_id (by omega) (by omega)) (perm_tasks q _ _ _ rfl) (fun j hj => ?_) h.smalls h.timers h.sorted
     rcases List.mem_append.1 hj with hj | hj
     ·exact h.tasks j hj
     ·rw [List.mem_singleton] at hj; subst hj; exact ⟨hw'.1, hw'.2, rfl⟩
   ·rw [if_pos (by simp [hr])]
    refine ⟨_, rfl, fun e => ?_, fun e => by cases e⟩
    have e : a.Do = 1 := e
    unfold Z8
    rw [if_pos (by simp [e]), betw_within, hw, if_neg (by simp), letIn_eq, if_pos (by simp [hr])]
    rfl
  ·rw [if_pos (by simp [hw])]
   refine ⟨_, rfl, fun e => ?_, fun e => by cases e⟩
   have e : a.Do = 1 := e
   unfold Z8
   rw [if_pos (by simp [e]), betw_within, if_pos (by simp [hw])]
   rfl
theorem new_ids {q : TJLoop} (h : LoopOK q) : ∀ s ∈ q.Timers, s.ID ≠ q.Next := fun s hs e => ids_new h (e ▸ List.mem_append_right _ (List.mem_map_of_mem hs))
theorem timer_eq {q : TJLoop} {a : TJAsk} (h : LoopOK q) (t2 low : Int) (hd : wi (a.Do - 3) = low) (hlow : 0 ≤ low) (ht2 : t2 = 0 ∨ t2 = a.N) : ∃ r, Z1l ⟨q, a⟩ q.Tasks q.Smalls q.Timers t2 low = some r ∧ Z1s a q t2 = some (fin r) ∧ (r.2.2 = 0 → LoopOK r.1) := by
 have h0 := h.next
 have h1 := h.now
 have s1 := h.short.l1
 have s2 := h.short.l2
 have s3 := h.short.l3
 unfold Z1l Z1s
 dsimp only
 rw [hd, betw_within]
 by_cases hc : Z1 a.N low 1000000 = true ∧ ¬ 1000000000 < wi (q.Now + a.N)
 ·have hw := (within_iff _ _ _).1 hc.1
  have hwi : wi (q.Now + a.N) = q.Now + a.N := wi_id (by omega) (by omega)
  have hc2 := hc.2
  rw [hwi] at hc2
  have hn : ¬ ((!Z1 a.N low 1000000) || decide (1000000000 < wi (q.Now + a.N))) = true := by
   rw [hwi]; simp only [hc.1, Bool.not_true, Bool.false_or, decide_eq_true_eq]; exact hc2
  rw [if_neg hn, if_neg hn, letIn_eq, letIn_eq, full_room q a _ h0]
  by_cases hr : Z6 (q.Timers.length : Int) q.Now q.Next q.Tasks q.Smalls q.Timers = true
  ·have hr' := (room_iff _ _).1 hr
   obtain ⟨p, hp⟩ := pla_ex ⟨q.Next, wi (q.Now + a.N), t2, 0, a.Call⟩ q.Timers
   have e1 := lay_eq q.Timers _ (by omega) h.sorted (new_ids h) p hp
   have e2 := placed_eq q.Timers _ (by omega) p hp
   rw [hr, if_neg (by simp), if_neg (by simp)]
   refine ⟨(⟨q.Now, wi (q.Next + 1), q.Tasks, q.Smalls, _⟩, q.Next, 0), by rw [e1]; rfl, by rw [e2]; rfl, fun _ => ?_⟩
   refine ok_next h hr'.2 ⟨s1, s2, by simp only [List.length_append, List.length_take, List.length_drop, List.length_cons, List.length_nil]; omega⟩ rfl (show wi (q.Next + 1) = q.Next + 1 from wi_id (by omega) (by omega)) (perm_timers q _ _ _ rfl _ _ _ _ _) h.tasks h.smalls (fun t ht => ?_) (laid_sorted h.sorted (new_ids h) hp)
   rcases laid_mem.1 ht with rfl | ht
   ·refine ⟨?_, ?_, ?_, ?_, ?_, ?_⟩
    ·show q.Now ≤ wi (q.Now + a.N); omega
    ·show wi (q.Now + a.N) ≤ _; omega
    ·show 0 ≤ t2; omega
    ·show t2 ≤ _; omega
    ·exact Int.le_refl _
    ·show (0 : Int) ≤ _; omega
   ·exact h.timers t ht
  ·have hr : Z6 (q.Timers.length : Int) q.Now q.Next q.Tasks q.Smalls q.Timers = false := by simpa using hr
   rw [hr]
   exact ⟨_, rfl, rfl, fun e => by cases e⟩
 ·have hc' : ((!Z1 a.N low 1000000) || decide (1000000000 < wi (q.Now + a.N))) = true := by
   cases hx : Z1 a.N low 1000000 with
   | false => rfl
   | true =>
    simp only [Bool.not_true, Bool.false_or, decide_eq_true_eq]
    by_cases hy : 1000000000 < wi (q.Now + a.N)
    ·exact hy
    ·exact absurd ⟨hx, hy⟩ hc
  rw [if_pos hc', if_pos hc']
  exact ⟨_, rfl, rfl, fun e => by cases e⟩
theorem index_eq (l : List TJTimer) (hl : l.length ≤ 1000) (c0 c1 : Int) (c2 c3 : List TJJob) (c4 : List TJTimer) (c5 c6 N : Int) (c8 : List UInt8) (c9 c10 : Int) (c11 : List UInt8) :
  (Z18 l c0 c1 c2 c3 c4 c5 c6 N c8 c9 c10 c11 = some (-1) ∧ ∀ t ∈ l, t.ID ≠ N) ∨ ∃ (i : Nat) (h : i < l.length), Z18 l c0 c1 c2 c3 c4 c5 c6 N c8 c9 c10 c11 = some (i : Int) ∧ l[i].ID = N := by
 unfold Z18
 rcases rounds_lim (fun k (_ : Unit) i => Zo l c0 c1 c2 c3 c4 c5 c6 N c8 c9 c10 c11 (fun _ => some (-1)) k i) (fun _ => some (-1)) l.length (fun i _ => ∀ t ∈ l.take i, t.ID ≠ N) (fun r => ∃ (i : Nat) (h : i < l.length), r = some (i : Int) ∧ l[i].ID = N) () (fun _ h => by simp at h)
  (fun m s hs => by rw [Zo, if_neg (lt_neg _)])
  (fun s i hi hs => by
   have e : ∀ x : TJTimer, Z1n x c0 c1 c2 c3 c4 c5 c6 N c8 c9 c10 c11 = decide (x.ID = N) := fun _ => rfl
   by_cases hc : l[i].ID = N
   ·refine .inr ⟨some i, ⟨i, hi, rfl, hc⟩, fun m => ?_⟩
    rw [Zo, if_pos (lt_pos hi), at_some hi, Option.bind_some, letIn_eq, e, if_pos (by simpa using hc)]
   ·refine .inl ⟨(), fun t ht => ?_, fun m => ?_⟩
    ·rw [take_succ_get hi, List.mem_append, List.mem_singleton] at ht
     rcases ht with ht | rfl
     ·exact hs t ht
     ·exact hc
    ·rw [Zo, if_pos (lt_pos hi), at_some hi, Option.bind_some, letIn_eq, e, if_neg (by simpa using hc), wi_next hi (by omega)]) with ⟨s, hf, h⟩ | ⟨r, ⟨i, hi, rfl, hf⟩, h⟩
 ·rw [take_all] at hf
  exact .inl ⟨h, hf⟩
 ·exact .inr ⟨i, hi, h, hf⟩
theorem left_eq (q : TJLoop) (a : TJAsk) (hl : q.Timers.length ≤ 1000) (K : List TJTimer → Option (TJLoop × Int × Int)) : lim (fun kk => Zh q a K kk ([] : List TJTimer) 0) = K (q.Timers.filter fun t => !decide (t.ID = a.N)) := by
 obtain ⟨s, hs, h⟩ := rounds_all (fun k s i => Zh q a K k s i) K q.Timers.length (fun i s => s = (q.Timers.take i).filter fun t => !decide (t.ID = a.N)) [] (by simp)
  (fun m s hs => by rw [Zh, if_neg (lt_neg _)])
  (fun s i hi hs => ⟨_, rfl, fun m => by
   have hlen : s.length ≤ 1000 := by rw [hs]; exact Nat.le_trans (List.length_filter_le _ _) (by rw [List.length_take]; omega)
   rw [Zh, if_pos (lt_pos hi), at_some hi, Option.bind_some, take_succ_get hi, List.filter_append, ← hs]
   unfold Z27
   rw [wi_next hi (by omega)]
   by_cases hc : q.Timers[i].ID = a.N
   ·rw [if_neg (by simpa using hc), List.filter_cons_of_neg (by simpa using hc), List.filter_nil, List.append_nil]
   ·rw [if_pos (by simpa using hc), appq (by simp; omega), Option.bind_some, List.filter_cons_of_pos (by simpa using hc), List.filter_nil]⟩)
 rw [take_all] at hs
 rw [← hs]
 exact h
theorem filter_one {l : List TJTimer} {i : Nat} {N : Int} (hi : i < l.length) (hN : l[i].ID = N) (hn : (l.map (·.ID)).Nodup) : (l.filter fun t => !decide (t.ID = N)) = l.take i ++ l.drop (i + 1) := by
 have e : l = l.take i ++ l[i] :: l.drop (i + 1) := by rw [← List.drop_eq_getElem_cons hi, List.take_append_drop]
 have h2 : ∀ t ∈ l.take i ++ l.drop (i + 1), t.ID ≠ N := by
  rw [e, List.map_append, List.map_cons, List.nodup_append] at hn
  obtain ⟨n1, n2, n3⟩ := hn
  rw [List.nodup_cons] at n2
  intro t ht h
  rcases List.mem_append.1 ht with ht | ht
  ·exact n3 _ (List.mem_map_of_mem ht) _ List.mem_cons_self (by rw [h, hN])
  ·exact n2.1 (by rw [hN, ← h]; exact List.mem_map_of_mem ht)
 conv => lhs; rw [e]
 rw [List.filter_append, List.filter_cons_of_neg (by simpa using hN), List.filter_eq_self.2 fun t ht => by simpa using h2 t (List.mem_append_left _ ht), List.filter_eq_self.2 fun t ht => by simpa using h2 t (List.mem_append_right _ ht)]
theorem ok_less {q : TJLoop} (h : LoopOK q) (T S : List TJJob) (R : List TJTimer) (hT : T.Sublist q.Tasks) (hS : S.Sublist q.Smalls) (hR : R.Sublist q.Timers) : LoopOK ⟨q.Now, q.Next, T, S, R⟩ := by
 have hsub : (idsOf ⟨q.Now, q.Next, T, S, R⟩).Sublist (idsOf q) := ((hT.map _).append (hS.map _)).append (hR.map _)
 have s1 := h.short.l1
 have s2 := h.short.l2
 have s3 := h.short.l3
 have l1 := hT.length_le
 have l2 := hS.length_le
 have l3 := hR.length_le
 exact ⟨⟨by show T.length ≤ 100; omega, by show S.length ≤ 100; omega, by show R.length ≤ 100; omega⟩, h.now, h.next, fun n hn => h.ids n (hsub.subset hn), h.nodup.sublist hsub, fun j hj => h.tasks j (hT.subset hj), fun j hj => h.smalls j (hS.subset hj), fun t ht => h.timers t (hR.subset ht), h.sorted.sublist hR⟩
theorem timers_nodup {q : TJLoop} (h : LoopOK q) : (q.Timers.map (·.ID)).Nodup := h.nodup.sublist (List.sublist_append_right _ _)
theorem ask_eq {q : TJLoop} {a : TJAsk} (h : LoopOK q) : ∃ r, Zu q a = some r ∧ Z8 q a = some r ∧ (r.2.2 = 0 → LoopOK r.1) := by
 have fin0 : ∀ {r : TJLoop × Int × Int}, (r.2.2 = 0 → LoopOK r.1) → (fin r).2.2 = 0 → LoopOK (fin r).1 := fun {r} hr h => by
  unfold fin at *
  split
  ·rename_i e; exact hr e
  ·rename_i e; rw [if_neg e] at h; exact absurd h e
 by_cases hd : 1 ≤ a.Do ∧ a.Do ≤ 5
 ·have hcase : a.Do = 1 ∨ a.Do = 2 ∨ a.Do = 3 ∨ a.Do = 4 ∨ a.Do = 5 := by omega
  rcases hcase with e | e | e | e | e
  ·obtain ⟨r, h1, h2, h3⟩ := post_eq (a := a) h false
   refine ⟨fin r, ask_of h hd ?_, h2 e, fin0 h3⟩
   unfold Zt
   rw [if_pos (by simpa using e), h1]; rfl
  ·obtain ⟨r, h1, h2, h3⟩ := post_eq (a := a) h true
   refine ⟨fin r, ask_of h hd ?_, h2 e, fin0 h3⟩
   unfold Zt
   rw [if_neg (by simp [e]), if_pos (by simpa using e), h1]; rfl
  ·obtain ⟨r, h1, h2, h3⟩ := timer_eq (a := a) h 0 0 (by rw [e]; rfl) (Int.le_refl _) (.inl rfl)
   refine ⟨fin r, ask_of h hd ?_, ?_, fin0 h3⟩
   ·unfold Zt Z1m
    rw [if_neg (by simp [e]), if_neg (by simp [e]), if_pos (by simpa using e), if_neg (by simp), h1]; rfl
   ·unfold Z8 Z13
    rw [if_neg (by simp [e]), if_neg (by simp [e]), if_pos (by simpa using e), if_pos (by simpa using e), if_neg (by simp [e]), h2]
  ·obtain ⟨r, h1, h2, h3⟩ := timer_eq (a := a) h a.N 1 (by rw [e]; rfl) (by decide) (.inr rfl)
   refine ⟨fin r, ask_of h hd ?_, ?_, fin0 h3⟩
   ·unfold Zt Z1m
    rw [if_neg (by simp [e]), if_neg (by simp [e]), if_neg (by simp [e]), if_pos (by simpa using e), if_pos rfl, h1]; rfl
   ·unfold Z8 Z13
    rw [if_neg (by simp [e]), if_neg (by simp [e]), if_neg (by simp [e]), if_pos (by simpa using e), if_pos (by simpa using e), h2]
  ·have s3 := h.short.l3
   have hdo : Zt ⟨q, a⟩ = (Z18 q.Timers q.Now q.Next q.Tasks q.Smalls q.Timers a.Do a.Source a.N a.Call a.Arg.Kind a.Arg.N a.Arg.S).bind fun r_4 =>
     if decide (r_4 < 0) then
      some (q, 0, 5)
     else
      (Z1z q.Timers r_4 (wi (r_4 + 1))).bind fun r_5 =>
      some ((⟨q.Now, q.Next, q.Tasks, q.Smalls, r_5⟩ : TJLoop), 0, 0) := by
    unfold Zt
    rw [if_neg (by simp [e]), if_neg (by simp [e]), if_neg (by simp [e]), if_neg (by simp [e])]
   have href : Z8 q a = if ((((q.Timers.filter fun t => !decide (t.ID = a.N)).length : Nat) : Int) = (q.Timers.length : Int)) then some (qz, 0, 5) else some ((⟨q.Now, q.Next, q.Tasks, q.Smalls, q.Timers.filter fun t => !decide (t.ID = a.N)⟩ : TJLoop), 0, 0) := by
    unfold Z8 Z13
    rw [if_neg (by simp [e]), if_neg (by simp [e]), if_neg (by simp [e]), if_neg (by simp [e]), if_pos (by simpa using e), left_eq q a (by omega)]
    simp only [decide_eq_true_eq]
    rfl
   rcases index_eq q.Timers (by omega) q.Now q.Next q.Tasks q.Smalls q.Timers a.Do a.Source a.N a.Call a.Arg.Kind a.Arg.N a.Arg.S with ⟨h1, h2⟩ | ⟨i, hi, h1, h2⟩
   ·refine ⟨(qz, 0, 5), ?_, ?_, fun h => by cases h⟩
    ·refine ask_of (r := (q, 0, 5)) h hd ?_
     rw [hdo, h1]; rfl
    ·rw [href, List.filter_eq_self.2 fun t ht => by simpa using h2 t ht, if_pos rfl]
   ·have hf := filter_one hi h2 (timers_nodup h)
    have hlen : (q.Timers.take i ++ q.Timers.drop (i + 1)).length ≠ q.Timers.length := by
     simp only [List.length_append, List.length_take, List.length_drop]; omega
    refine ⟨(⟨q.Now, q.Next, q.Tasks, q.Smalls, q.Timers.take i ++ q.Timers.drop (i + 1)⟩, 0, 0), ?_, ?_, fun _ => ?_⟩
    ·refine ask_of (r := (⟨q.Now, q.Next, q.Tasks, q.Smalls, q.Timers.take i ++ q.Timers.drop (i + 1)⟩, 0, 0)) h hd ?_
     rw [hdo, h1, Option.bind_some, if_neg (by simp), wi_next hi (by omega)]
     show (del? _ _ _).bind _ = _
     rw [del_some (by omega) (by omega) (by omega), Option.bind_some, Int.toNat_natCast, Int.toNat_natCast]
    ·rw [href, hf, if_neg (by omega)]
    ·refine ok_less h _ _ _ (List.Sublist.refl _) (List.Sublist.refl _) ?_
     have : (q.Timers.take i ++ q.Timers.drop (i + 1)).Sublist (q.Timers.take i ++ q.Timers.drop i) := List.Sublist.append (List.Sublist.refl _) (by rw [List.drop_eq_getElem_cons hi]; exact List.sublist_cons_self _ _)
     rwa [List.take_append_drop] at this
 ·refine ⟨(qz, 0, 3), ?_, ?_, fun h => by cases h⟩
  ·unfold Zu
   rw [check_ok h, Option.bind_some, if_neg (by simp), if_pos (by rw [Bool.not_eq_true']; rw [← Bool.not_eq_true, within_iff]; exact hd)]
   rfl
  ·unfold Z8 Z13
   rw [if_neg (by simp; omega), if_neg (by simp; omega), if_neg (by simp; omega), if_neg (by simp; omega), if_neg (by simp; omega)]
   rfl
end Go.Proofs.YtoomjemboekooaaBv
/- The next of a loop. No program is in sight. -/
namespace Go.Proofs.YtoomjemboekooaaBv
open Go
set_option linter.unusedSimpArgs false
set_option linter.unusedVariables false
def jz : TJJob := ⟨0, 0, false, [], ⟨0, 0, []⟩⟩
def dueB (q : TJLoop) (u : Int) : Bool := match q.Timers with
 | [] => false
 | t :: _ => decide (t.At ≤ q.Now) || (decide (q.Tasks.length = 0) && decide (t.At ≤ u))
theorem at_head {α : Type} (x : α) (r : List α) : at? (x :: r) 0 = some x := rfl
theorem del_head {α : Type} (x : α) (r : List α) : del? (x :: r) 0 1 = some r := by
 rw [del_some (by omega) (by omega) (by simp; omega)]; rfl
theorem sub_tail {α : Type} (x : α) (r : List α) : sub? (x :: r) 1 ((x :: r).length : Int) = some r := by
 have := sub_drop (l := x :: r) (a := 1) (by simp)
 exact this
theorem next_due (q : TJLoop) (u : Int) : Z1o q u = Z10 q u q.Tasks q.Smalls q.Timers (dueB q u) := by
 unfold Z1o dueB
 cases hT : q.Timers with
 | nil => rw [if_neg (by simp)]
 | cons t r =>
  rw [if_pos (by simp), at_head, Option.bind_some, Option.bind_some]
  by_cases h1 : t.At ≤ q.Now
  ·rw [if_pos (by simpa using h1)]
   simp [h1]
  ·rw [if_neg (by simpa using h1)]
   by_cases h2 : q.Tasks.length = 0
   ·rw [if_pos (by simp only [decide_eq_true_eq]; omega)]
    simp [h1, h2]
   ·rw [if_neg (by simp only [decide_eq_true_eq]; omega)]
    simp [h1, h2]
theorem ids_sub {q : TJLoop} (h : LoopOK q) {t : TJTimer} {r : List TJTimer} (hT : q.Timers = t :: r) : ∀ s ∈ r, s.ID ≠ t.ID := by
 have hn := timers_nodup h
 rw [hT, List.map_cons, List.nodup_cons] at hn
 intro s hs e
 exact hn.1 (by rw [← e]; exact List.mem_map_of_mem hs)
/-- the first timer is taken -/
theorem fired {q : TJLoop} (h : LoopOK q) {t : TJTimer} {r : List TJTimer} (hT : q.Timers = t :: r) : LoopOK ⟨t.At, q.Next, q.Tasks, q.Smalls, r⟩ := by
 have h0 := h.now
 have ht := h.timers t (by rw [hT]; exact List.mem_cons_self)
 obtain ⟨a, b, c, d, e, f⟩ := ht
 have hl := ok_less h q.Tasks q.Smalls r (List.Sublist.refl _) (List.Sublist.refl _) (by rw [hT]; exact List.sublist_cons_self _ _)
 have hs := h.sorted
 rw [hT, List.pairwise_cons] at hs
 refine ⟨⟨hl.short.l1, hl.short.l2, hl.short.l3⟩, ⟨?_, b⟩, hl.next, hl.ids, hl.nodup, hl.tasks, hl.smalls, fun s hm => ?_, hl.sorted⟩
 ·show 0 ≤ t.At; omega
 ·obtain ⟨a', b', c', d', e', f'⟩ := hl.timers s hm
  have := hs.1 s hm
  refine ⟨?_, b', c', d', e', f'⟩
  show t.At ≤ s.At
  unfold tLt at this
  omega
theorem fired_laid {q : TJLoop} (h : LoopOK q) {t : TJTimer} {r : List TJTimer} (hT : q.Timers = t :: r) (h1 : 0 < t.Every) (h2 : t.At + t.Every ≤ 1000000000) (h3 : t.Turn < 1000000000) {t' : TJTimer} (e1 : t'.ID = t.ID) (e2 : t'.At = t.At + t.Every) (e3 : t'.Every = t.Every) (e4 : t'.Turn = t.Turn + 1) {p : Nat} (hp : pla r t' p) : LoopOK ⟨t.At, q.Next, q.Tasks, q.Smalls, r.take p ++ [t'] ++ r.drop p⟩ := by
 have hf := fired h hT
 have h0 := h.now
 obtain ⟨a, b, c, d, e, f⟩ := h.timers t (by rw [hT]; exact List.mem_cons_self)
 have s3 := h.short.l3
 have hpl := hp.1
 have hperm : (idsOf ⟨t.At, q.Next, q.Tasks, q.Smalls, r.take p ++ [t'] ++ r.drop p⟩).Perm (idsOf q) := by
  refine (perm_timers q t' q.Next t.ID e1 t.At q.Tasks q.Smalls r p).trans ?_
  unfold idsOf
  rw [hT, List.map_cons]
  exact List.perm_middle.symm
 rw [hT] at s3
 refine ⟨⟨hf.short.l1, hf.short.l2, by simp only [List.length_append, List.length_take, List.length_drop, List.length_cons, List.length_nil]; rw [List.length_cons] at s3; omega⟩, hf.now, hf.next, fun n hn => h.ids n (hperm.mem_iff.1 hn), hperm.nodup_iff.2 h.nodup, hf.tasks, hf.smalls, fun s hs => ?_, laid_sorted hf.sorted (fun s hs => by rw [e1]; exact ids_sub h hT s hs) hp⟩
 rcases laid_mem.1 hs with rfl | hs
 ·unfold timerOK
  show t.At ≤ s.At ∧ _
  omega
 ·exact hf.timers s hs
theorem fire_eq {q : TJLoop} (h : LoopOK q) {t : TJTimer} {r : List TJTimer} (hT : q.Timers = t :: r) : ∃ p : TJLoop, Z21 q = some (p, ⟨t.ID, 3, false, t.Call, ⟨2, t.Turn, []⟩⟩) ∧ LoopOK p ∧ p.Now = t.At ∧ p.Next = q.Next ∧ p.Tasks = q.Tasks ∧ p.Smalls = q.Smalls ∧
  (if (((decide (0 < t.Every)) && (decide (t.Turn < 1000000000))) && (decide ((wi (t.At + t.Every)) ≤ 1000000000))) then Z1d r (⟨t.ID, (wi (t.At + t.Every)), t.Every, (wi (t.Turn + 1)), t.Call⟩ : TJTimer) else some r) = some p.Timers := by
 obtain ⟨a, b, c, d, e, f⟩ := h.timers t (by rw [hT]; exact List.mem_cons_self)
 have h0 := h.now
 have hw1 : wi (t.At + t.Every) = t.At + t.Every := wi_id (by omega) (by omega)
 have hw2 : wi (t.Turn + 1) = t.Turn + 1 := wi_id (by omega) (by omega)
 have hmx : mx q.Now t.At = t.At := by unfold mx; split <;> omega
 have s3 := h.short.l3
 have s3' := s3
 rw [hT, List.length_cons] at s3'
 have hdel : Z1z q.Timers 0 1 = some r := by rw [hT]; exact del_head t r
 unfold Z21 Z20
 rw [show at? q.Timers 0 = some t by rw [hT]; rfl, Option.bind_some, hdel, Option.bind_some, hmx, hw1, hw2]
 by_cases hc : 0 < t.Every ∧ t.Turn < 1000000000 ∧ t.At + t.Every ≤ 1000000000
 ·obtain ⟨c1, c2, c3⟩ := hc
  obtain ⟨p, hp⟩ := pla_ex ⟨t.ID, t.At + t.Every, t.Every, t.Turn + 1, t.Call⟩ r
  have hs := h.sorted
  rw [hT, List.pairwise_cons] at hs
  rw [if_pos (by simp [c1, c2, c3]), if_pos (by simp [c1, c2, c3]), lay_eq r ⟨t.ID, t.At + t.Every, t.Every, t.Turn + 1, t.Call⟩ (by omega) hs.2 (fun s hm => ids_sub h hT s hm) p hp, placed_eq r _ (by omega) p hp]
  exact ⟨_, rfl, fired_laid (t' := ⟨t.ID, t.At + t.Every, t.Every, t.Turn + 1, t.Call⟩) h hT c1 c3 c2 rfl rfl rfl rfl hp, rfl, rfl, rfl, rfl, rfl⟩
 ·rw [if_neg (by simp only [Bool.and_eq_true, decide_eq_true_eq]; omega), if_neg (by simp only [Bool.and_eq_true, decide_eq_true_eq]; omega)]
  exact ⟨_, rfl, fired h hT, rfl, rfl, rfl, rfl, rfl⟩
theorem rest_eq {q : TJLoop} (h : LoopOK q) (u : Int) (hu : 0 ≤ u ∧ u ≤ 1000000000) (hd : dueB q u = false) : ∃ r : TJLoop × TJJob × Bool,
  (if decide (0 < (q.Tasks.length : Int)) then
    (at? q.Tasks 0).bind fun x_1 =>
    (Z2j q.Tasks 0 1).bind fun r_2 =>
    some ((⟨q.Now, q.Next, r_2, q.Smalls, q.Timers⟩ : TJLoop), x_1, true)
   else
    some ((⟨u, q.Next, q.Tasks, q.Smalls, q.Timers⟩ : TJLoop), (⟨0, 0, false, [], (⟨0, 0, []⟩ : TJVal)⟩ : TJJob), false)) = some r ∧
  (if decide (0 < (q.Tasks.length : Int)) then
     (at? q.Tasks 0).bind fun x_2 =>
     (sub? q.Tasks 1 (q.Tasks.length : Int)).bind fun r_3 =>
     some ((⟨q.Now, q.Next, r_3, q.Smalls, q.Timers⟩ : TJLoop), x_2, true)
    else
     some ((⟨u, q.Next, q.Tasks, q.Smalls, q.Timers⟩ : TJLoop), (⟨0, 0, false, [], (⟨0, 0, []⟩ : TJVal)⟩ : TJJob), false)) = some r ∧ LoopOK r.1 := by
 cases hT : q.Tasks with
 | nil =>
  rw [if_neg (by simp), if_neg (by simp)]
  refine ⟨_, rfl, rfl, ?_⟩
  have hl := ok_less h [] q.Smalls q.Timers (List.nil_sublist _) (List.Sublist.refl _) (List.Sublist.refl _)
  refine ⟨⟨hl.short.l1, hl.short.l2, hl.short.l3⟩, hu, hl.next, hl.ids, hl.nodup, hl.tasks, hl.smalls, fun s hs => ?_, hl.sorted⟩
  obtain ⟨a, b, c, d, e, f⟩ := h.timers s hs
  refine ⟨?_, b, c, d, e, f⟩
  show u ≤ s.At
  unfold dueB at hd
  cases hR : q.Timers with
  | nil => have hs : s ∈ q.Timers := hs; rw [hR] at hs; cases hs
  | cons t r =>
   rw [hR] at hd
   have hs : s ∈ q.Timers := hs
   have hso := h.sorted
   rw [hR] at hs hso
   simp [hT] at hd
   rcases List.mem_cons.1 hs with rfl | hs
   ·omega
   ·have := (List.pairwise_cons.1 hso).1 s hs
    unfold tLt at this
    omega
 | cons x r =>
  rw [if_pos (by simp), if_pos (by simp), at_head, Option.bind_some, Option.bind_some, sub_tail]
  show ∃ r_1, (del? (x :: r) 0 1).bind _ = _ ∧ _
  rw [del_head]
  exact ⟨_, rfl, rfl, ok_less h r q.Smalls q.Timers (by rw [hT]; exact List.sublist_cons_self _ _) (List.Sublist.refl _) (List.Sublist.refl _)⟩
theorem next_eq {q : TJLoop} (h : LoopOK q) (u : Int) (hu : 0 ≤ u ∧ u ≤ 1000000000) : ∃ r, Z1o q u = some r ∧ Z29 q u = some r ∧ LoopOK r.1 := by
 rw [next_due]
 unfold Z10 Z29
 cases hS : q.Smalls with
 | cons x s =>
  rw [if_pos (by simp), if_pos (by simp), at_head, Option.bind_some, Option.bind_some, sub_tail]
  show ∃ r_1, (del? (x :: s) 0 1).bind _ = _ ∧ _
  rw [del_head]
  exact ⟨_, rfl, rfl, ok_less h q.Tasks s q.Timers (List.Sublist.refl _) (by rw [hS]; exact List.sublist_cons_self _ _) (List.Sublist.refl _)⟩
 | nil =>
  have hz : ¬ decide (0 < (([] : List TJJob).length : Int)) = true := by simp
  rw [if_neg hz, if_neg hz]
  have K0 := rest_eq h u hu
  rw [hS] at K0
  cases hR : q.Timers with
  | nil =>
   have hd : dueB q u = false := by unfold dueB; rw [hR]
   rw [hd]
   obtain ⟨r, e1, e2, e3⟩ := K0 hd
   rw [hR] at e1 e2
   refine ⟨r, by rw [if_neg (by simp)]; exact e1, ?_, e3⟩
   refine lim_add 1 fun m => ?_
   rw [Zq, if_neg (by rw [hR]; simp)]
   exact e2
  | cons t rr =>
   cases hd : dueB q u with
   | false =>
    obtain ⟨r, e1, e2, e3⟩ := K0 hd
    rw [hR] at e1 e2
    refine ⟨r, by rw [if_neg (by simp)]; exact e1, ?_, e3⟩
    refine lim_add 1 fun m => ?_
    rw [Zq, if_pos (by rw [hR]; simp), show at? q.Timers 0 = some t by rw [hR]; rfl, Option.bind_some, if_pos]
    ·exact e2
    ·unfold dueB at hd
     rw [hR] at hd
     simp only [Bool.or_eq_false_iff, Bool.and_eq_false_iff, decide_eq_false_iff_not] at hd
     simp only [Bool.and_eq_true, Bool.or_eq_true, decide_eq_true_eq]
     omega
   | true =>
    obtain ⟨p, f1, f2, f3, f4, f5, f6, f7⟩ := fire_eq h hR
    refine ⟨(p, ⟨t.ID, 3, false, t.Call, ⟨2, t.Turn, []⟩⟩, true), ?_, ?_, f2⟩
    ·have e : (⟨q.Now, q.Next, q.Tasks, [], t :: rr⟩ : TJLoop) = q := by rw [← hS, ← hR]
     rw [if_pos rfl, e, f1]; rfl
    ·refine lim_add 1 fun m => ?_
     obtain ⟨a, b, c, d, e, f⟩ := h.timers t (by rw [hR]; exact List.mem_cons_self)
     have ep : ∀ q0 : Int, q0 = t.At → (⟨q0, q.Next, q.Tasks, q.Smalls, p.Timers⟩ : TJLoop) = p := fun q0 e0 => by
      rw [e0, ← f3, ← f4, ← f5, ← f6]
     have j3 : ∀ (q0 : Int) (self : Option (TJLoop × TJJob × Bool)) K, q0 = t.At → Z1t t rr q u self K q0 = some (p, ⟨t.ID, 3, false, t.Call, ⟨2, t.Turn, []⟩⟩, true) := fun q0 self K e0 => by
      unfold Z1t Z28
      split
      ·rename_i hc
       rw [if_pos hc] at f7
       rw [f7, Option.bind_some, ep q0 e0]
      ·rename_i hc
       rw [if_neg hc] at f7
       cases f7
       rw [ep q0 e0]
     rw [Zq, if_pos (by rw [hR]; simp), show at? q.Timers 0 = some t by rw [hR]; rfl, Option.bind_some, if_neg, show sub? q.Timers 1 (q.Timers.length : Int) = some rr by rw [hR]; exact sub_tail t rr, Option.bind_some]
     ·by_cases hc : q.Now < t.At
      ·rw [if_pos (by simpa using hc)]; exact j3 _ _ _ rfl
      ·rw [if_neg (by simpa using hc)]; exact j3 _ _ _ (by omega)
     ·unfold dueB at hd
      rw [hR] at hd
      simp only [Bool.or_eq_true, Bool.and_eq_true, decide_eq_true_eq] at hd
      simp only [Bool.and_eq_true, Bool.or_eq_true, decide_eq_true_eq]
      omega
/-! ### the same loops -/
theorem same_jobs (l : List TJJob) (hl : l.length ≤ 1000) : Z19 l l = some true := by
 unfold Z19
 rw [if_neg (by simp)]
 obtain ⟨s, hs, h⟩ := rounds_all (fun k (_ : Unit) i => Zv l l (fun _ => some true) k i) (fun _ => some true) l.length (fun _ _ => True) () trivial
  (fun m s hs => by rw [Zv, if_neg (lt_neg _)])
  (fun s i hi hs => ⟨(), trivial, fun m => by
   rw [Zv, if_pos (lt_pos hi), at_some hi, Option.bind_some, Option.bind_some, letIn_eq, if_neg (by simp), wi_next hi (by omega)]⟩)
 exact h
theorem same_timers (l : List TJTimer) (hl : l.length ≤ 1000) : Z23 l l = some true := by
 unfold Z23
 rw [if_neg (by simp)]
 obtain ⟨s, hs, h⟩ := rounds_all (fun k (_ : Unit) i => Zw l l (fun _ => some true) k i) (fun _ => some true) l.length (fun _ _ => True) () trivial
  (fun m s hs => by rw [Zw, if_neg (lt_neg _)])
  (fun s i hi hs => ⟨(), trivial, fun m => by
   rw [Zw, if_pos (lt_pos hi), at_some hi, Option.bind_some, Option.bind_some, letIn_eq, if_neg (by simp), wi_next hi (by omega)]⟩)
 exact h
theorem same_eq (q : TJLoop) (h : Short q) : Z11 q q = some true := by
 have h1 := h.l1
 have h2 := h.l2
 have h3 := h.l3
 unfold Z11 Z1a
 rw [if_pos (by simp), same_jobs _ (by omega), Option.bind_some, if_pos rfl, same_jobs _ (by omega), Option.bind_some, if_pos rfl, same_timers _ (by omega), Option.bind_some]
theorem short_qz : Short qz := ⟨Nat.zero_le _, Nat.zero_le _, Nat.zero_le _⟩

theorem ask_short {q : TJLoop} {a : TJAsk} (h : LoopOK q) {r : TJLoop × Int × Int} (hr : Zu q a = some r) (hne : r.2.2 ≠ 0) : Short r.1 := by
 unfold Zu at hr
 rw [check_ok h, Option.bind_some, if_neg (by simp)] at hr
 split at hr
 ·cases hr; exact short_qz
 ·rw [copied_eq q h.short, Option.bind_some] at hr
  obtain ⟨x, _, hr⟩ := Option.bind_eq_some_iff.1 hr
  split at hr
  ·cases hr; exact short_qz
  ·cases hr; exact absurd rfl hne
end Go.Proofs.YtoomjemboekooaaBv
/- The law of a loop that is played, over plain values. No program is in sight. -/
namespace Go.Proofs.YtoomjemboekooaaBv
open Go
set_option linter.unusedSimpArgs false
set_option linter.unusedVariables false
theorem ok_qz : LoopOK qz := ⟨short_qz, ⟨Int.le_refl _, by decide⟩, ⟨Int.le_refl _, by decide⟩, fun n hn => (by cases hn), List.nodup_nil, fun _ h => (by cases h), fun _ h => (by cases h), fun _ h => (by cases h), List.Pairwise.nil⟩
def mkq (a b : Int) (c d : List TJJob) (e : List TJTimer) : TJLoop := ⟨a, b, c, d, e⟩
/-- a run until a time: the program's and the document's come to the same -/
theorem runs (asks : List TJAsk) (q0 : Int) (x : TJAsk) (v35 v17 : Int)
  (hu : 0 ≤ wi (q0 + x.N) ∧ wi (q0 + x.N) ≤ 1000000000) : ∀ (d : Nat) (q : TJLoop) (out : List TJJob), LoopOK q → out.length + d = 300 → ∃ (p : TJLoop) (o : List TJJob), LoopOK p ∧ o.length ≤ 300 ∧
   (∀ (K : Int → Int → List TJJob → List TJJob → List TJTimer → List TJJob → Option (List TJJob × TJLoop × Int)) m, Z7 q0 x asks v35 K (m + d + 2) q.Now q.Next q.Tasks q.Smalls q.Timers out true = K p.Now p.Next p.Tasks p.Smalls p.Timers o) ∧
   (∀ (K : Int → Int → List TJJob → List TJJob → List TJTimer → List TJJob → Option (List TJJob × TJLoop)) m, Ze q0 x asks v17 K (m + d + 1) q.Now q.Next q.Tasks q.Smalls q.Timers out = K p.Now p.Next p.Tasks p.Smalls p.Timers o)
 | 0, q, out, h, hd => by
  refine ⟨q, out, h, by omega, fun K m => ?_, fun K m => ?_⟩
  ·rw [Z7, if_neg (by simp only [Bool.and_eq_true, decide_eq_true_eq]; omega)]
  ·rw [Ze, if_neg (by simp only [decide_eq_true_eq]; omega)]
 | d + 1, q, out, h, hd => by
  obtain ⟨r, r1, r2, r3⟩ := next_eq h (wi (q0 + x.N)) hu
  cases hr : r.2.2 with
  | false =>
   refine ⟨r.1, out, r3, by omega, fun K m => ?_, fun K m => ?_⟩
   ·rw [Z7, if_pos (by simp only [Bool.and_eq_true, decide_eq_true_eq]; exact ⟨trivial, by omega⟩), r1, Option.bind_some, hr, if_neg (by simp), Z7, if_neg (by simp)]
   ·rw [Ze, if_pos (by simp only [decide_eq_true_eq]; omega), r2, Option.bind_some, hr, if_pos (by simp)]
  | true =>
   obtain ⟨p, o, p1, p2, p3, p4⟩ := runs asks q0 x v35 v17 hu d r.1 (out ++ [r.2.1]) r3 (by simp; omega)
   refine ⟨p, o, p1, p2, fun K m => ?_, fun K m => ?_⟩
   ·rw [Z7, if_pos (by simp only [Bool.and_eq_true, decide_eq_true_eq]; exact ⟨trivial, by omega⟩), r1, Option.bind_some, hr, if_pos rfl, appq (by simp; omega), Option.bind_some, show m + (d + 1) + 1 = m + d + 2 by omega]
    exact p3 K m
   ·rw [Ze, if_pos (by simp only [decide_eq_true_eq]; omega), r2, Option.bind_some, hr, if_neg (by simp), appq (by simp; omega), Option.bind_some, show m + (d + 1) = m + d + 1 by omega]
    exact p4 K m
/-- ask by ask -/
theorem plays (asks : List TJAsk) (hl : asks.length ≤ 200) (hd : ∀ a ∈ asks, 1 ≤ a.Do ∧ a.Do ≤ 6) (K : Int → Int → List TJJob → List TJJob → List TJTimer → List TJJob → Option (List TJJob × TJLoop × Int)) (K' : Int → Int → List TJJob → List TJJob → List TJTimer → List TJJob → Option (List TJJob × TJLoop)) :
  ∀ (d i : Nat) (q : TJLoop) (out : List TJJob), LoopOK q → out.length ≤ 300 → i + d = asks.length → ∃ (p : TJLoop) (o : List TJJob), LoopOK p ∧ o.length ≤ 300 ∧
   (∀ m, Z4 asks K (m + d + 1) q.Now q.Next q.Tasks q.Smalls q.Timers out (i : Int) = K p.Now p.Next p.Tasks p.Smalls p.Timers o) ∧
   (∀ m, Z5 asks K' (m + d + 1) q.Now q.Next q.Tasks q.Smalls q.Timers out (i : Int) = K' p.Now p.Next p.Tasks p.Smalls p.Timers o)
 | 0, i, q, out, h, ho, hi => by
  obtain rfl : i = asks.length := by omega
  refine ⟨q, out, h, ho, fun m => ?_, fun m => ?_⟩
  ·rw [Z4, if_neg (lt_neg _)]
  ·rw [Z5, if_neg (lt_neg _)]
 | d + 1, i, q, out, h, ho, hi => by
  have hi' : i < asks.length := by omega
  have hdo := hd _ (List.getElem_mem hi')
  have st1 : ∀ m, Z4 asks K (m + (d + 1) + 1) q.Now q.Next q.Tasks q.Smalls q.Timers out (i : Int) = if (!decide (asks[i].Do = 6)) then
    (Zu q asks[i]).bind fun r_ =>
    if decide (r_.2.2 = 0) then
     Z4 asks K (m + d + 1) r_.1.Now r_.1.Next r_.1.Tasks r_.1.Smalls r_.1.Timers out ((i + 1 : Nat) : Int)
    else
     Z4 asks K (m + d + 1) q.Now q.Next q.Tasks q.Smalls q.Timers out ((i + 1 : Nat) : Int)
   else
    lim fun kk => Z7 q.Now asks[i] asks (i : Int) (fun (q04 : Int) (q14 : Int) (q24 : (List TJJob)) (q34 : (List TJJob)) (q44 : (List TJTimer)) (out4 : (List TJJob)) =>
      Z4 asks K (m + d + 1) q04 q14 q24 q34 q44 out4 ((i + 1 : Nat) : Int)) kk q.Now q.Next q.Tasks q.Smalls q.Timers out ((Z1 asks[i].N 0 1000000) && (decide ((wi (q.Now + asks[i].N)) ≤ 1000000000))) := fun m => by
   rw [Z4, if_pos (lt_pos hi'), at_some hi', Option.bind_some]
   unfold Z1q
   rw [wi_next hi' (by omega), show m + (d + 1) = m + d + 1 by omega]
  have st2 : ∀ m, Z5 asks K' (m + (d + 1) + 1) q.Now q.Next q.Tasks q.Smalls q.Timers out (i : Int) = if decide (asks[i].Do < 6) then
    (Z8 q asks[i]).bind fun r_ =>
    if decide (r_.2.2 = 0) then
     Z5 asks K' (m + d + 1) r_.1.Now r_.1.Next r_.1.Tasks r_.1.Smalls r_.1.Timers out ((i + 1 : Nat) : Int)
    else
     Z5 asks K' (m + d + 1) q.Now q.Next q.Tasks q.Smalls q.Timers out ((i + 1 : Nat) : Int)
   else
    if ((!(Z3 asks[i].N 0 1000000)) || (decide (1000000000 < (wi (q.Now + asks[i].N))))) then
     Z5 asks K' (m + d + 1) q.Now q.Next q.Tasks q.Smalls q.Timers out ((i + 1 : Nat) : Int)
    else
     lim fun kk => Ze q.Now asks[i] asks (i : Int) (fun (q04 : Int) (q14 : Int) (q24 : (List TJJob)) (q34 : (List TJJob)) (q44 : (List TJTimer)) (out4 : (List TJJob)) =>
       Z5 asks K' (m + d + 1) q04 q14 q24 q34 q44 out4 ((i + 1 : Nat) : Int)) kk q.Now q.Next q.Tasks q.Smalls q.Timers out := fun m => by
   rw [Z5, if_pos (lt_pos hi'), at_some hi', Option.bind_some]
   unfold Z1e
   rw [wi_next hi' (by omega), show m + (d + 1) = m + d + 1 by omega]
  by_cases h6 : asks[i].Do = 6
  ·have hcb : Z3 asks[i].N 0 1000000 = Z1 asks[i].N 0 1000000 := rfl
   by_cases hc : Z1 asks[i].N 0 1000000 = true ∧ wi (q.Now + asks[i].N) ≤ 1000000000
   ·have hw := (within_iff _ _ _).1 hc.1
    have h0 := h.now
    have hwi : wi (q.Now + asks[i].N) = q.Now + asks[i].N := wi_id (by omega) (by omega)
    obtain ⟨p, o, p1, p2, p3', p4'⟩ := runs asks q.Now asks[i] (i : Int) (i : Int) (by omega) (300 - out.length) q out h (by omega)
    have p3 : ∀ L : Int → Int → List TJJob → List TJJob → List TJTimer → List TJJob → Option (List TJJob × TJLoop × Int), (lim fun kk => Z7 q.Now asks[i] asks (i : Int) L kk q.Now q.Next q.Tasks q.Smalls q.Timers out true) = L p.Now p.Next p.Tasks p.Smalls p.Timers o := fun L => lim_add (300 - out.length + 2) fun m => p3' L m
    have p4 : ∀ L : Int → Int → List TJJob → List TJJob → List TJTimer → List TJJob → Option (List TJJob × TJLoop), (lim fun kk => Ze q.Now asks[i] asks (i : Int) L kk q.Now q.Next q.Tasks q.Smalls q.Timers out) = L p.Now p.Next p.Tasks p.Smalls p.Timers o := fun L => lim_add (300 - out.length + 1) fun m => p4' L m
    obtain ⟨p', o', a1, a2, a3, a4⟩ := plays asks hl hd K K' d (i + 1) p o p1 p2 (by omega)
    refine ⟨p', o', a1, a2, fun m => ?_, fun m => ?_⟩
    ·rw [st1, if_neg (by simp [h6]), show ((Z1 asks[i].N 0 1000000) && (decide ((wi (q.Now + asks[i].N)) ≤ 1000000000))) = true by rw [Bool.and_eq_true]; exact ⟨hc.1, by simpa using hc.2⟩, p3]
     exact a3 m
    ·rw [st2, if_neg (by simp [h6]), if_neg (by rw [hcb, hc.1]; simp only [Bool.not_true, Bool.false_or, decide_eq_true_eq]; omega), p4]
     exact a4 m
   ·have hcf : ((Z1 asks[i].N 0 1000000) && (decide ((wi (q.Now + asks[i].N)) ≤ 1000000000))) = false := by
     rw [← Bool.not_eq_true, Bool.and_eq_true, decide_eq_true_iff]; exact hc
    have hct : ((!(Z3 asks[i].N 0 1000000)) || (decide (1000000000 < (wi (q.Now + asks[i].N))))) = true := by
     rw [hcb]
     cases hx : Z1 asks[i].N 0 1000000 with
     | false => rfl
     | true =>
      simp only [Bool.not_true, Bool.false_or, decide_eq_true_eq]
      have : ¬ wi (q.Now + asks[i].N) ≤ 1000000000 := fun hy => hc ⟨hx, hy⟩
      omega
    obtain ⟨p', o', a1, a2, a3, a4⟩ := plays asks hl hd K K' d (i + 1) q out h ho (by omega)
    refine ⟨p', o', a1, a2, fun m => ?_, fun m => ?_⟩
    ·rw [st1, if_neg (by simp [h6]), hcf]
     refine (lim_add 1 fun k => ?_).trans (a3 m)
     rw [Z7, if_neg (by simp)]
    ·rw [st2, if_neg (by simp [h6]), if_pos hct]
     exact a4 m
  ·obtain ⟨r, r1, r2, r3⟩ := ask_eq (a := asks[i]) h
   have hlt : asks[i].Do < 6 := by omega
   by_cases hr : r.2.2 = 0
   ·obtain ⟨p', o', a1, a2, a3, a4⟩ := plays asks hl hd K K' d (i + 1) r.1 out (r3 hr) ho (by omega)
    refine ⟨p', o', a1, a2, fun m => ?_, fun m => ?_⟩
    ·rw [st1, if_pos (by simpa using h6), r1, Option.bind_some, if_pos (by simpa using hr)]
     exact a3 m
    ·rw [st2, if_pos (by simpa using hlt), r2, Option.bind_some, if_pos (by simpa using hr)]
     exact a4 m
   ·obtain ⟨p', o', a1, a2, a3, a4⟩ := plays asks hl hd K K' d (i + 1) q out h ho (by omega)
    refine ⟨p', o', a1, a2, fun m => ?_, fun m => ?_⟩
    ·rw [st1, if_pos (by simpa using h6), r1, Option.bind_some, if_neg (by simpa using hr)]
     exact a3 m
    ·rw [st2, if_pos (by simpa using hlt), r2, Option.bind_some, if_neg (by simpa using hr)]
     exact a4 m
theorem asks_eq (l : List TJAsk) (hl : l.length ≤ 1000) : ∃ b, Z22 l = some b ∧ (b = false ↔ ∀ a ∈ l, 1 ≤ a.Do ∧ a.Do ≤ 6) := by
 unfold Z22 Z2n
 rcases rounds_lim (fun k (_ : Unit) i => Zp l (fun _ => some (-1)) k i) (fun _ => some (-1)) l.length (fun i _ => ∀ a ∈ l.take i, 1 ≤ a.Do ∧ a.Do ≤ 6) (fun v => ∃ i : Nat, v = some (i : Int) ∧ ¬ ∀ a ∈ l, 1 ≤ a.Do ∧ a.Do ≤ 6) () (fun _ h => by simp at h)
  (fun m s hs => by rw [Zp, if_neg (lt_neg _)])
  (fun s i hi hs => by
   have e : Z1r l[i] = !Z1 l[i].Do 1 6 := rfl
   by_cases hc : Z1 l[i].Do 1 6 = true
   ·refine .inl ⟨(), fun j hj => ?_, fun m => ?_⟩
    ·rw [take_succ_get hi, List.mem_append, List.mem_singleton] at hj
     rcases hj with hj | rfl
     ·exact hs j hj
     ·exact (within_iff _ _ _).1 hc
    ·rw [Zp, if_pos (lt_pos hi), at_some hi, Option.bind_some, e, hc, if_neg (by simp), wi_next hi (by omega)]
   ·refine .inr ⟨some i, ⟨i, rfl, fun h => hc ((within_iff _ _ _).2 (h _ (List.getElem_mem hi)))⟩, fun m => ?_⟩
    rw [Zp, if_pos (lt_pos hi), at_some hi, Option.bind_some, e, if_pos (by simp [hc])]) with ⟨s, hf, h⟩ | ⟨v, ⟨i, rfl, hf⟩, h⟩
 ·rw [take_all] at hf
  exact ⟨false, by rw [h]; rfl, fun _ => hf, fun _ => rfl⟩
 ·exact ⟨true, by rw [h]; simp, fun h => (by cases h), fun h => absurd h hf⟩
theorem forms_eq (l : List TJAsk) (hl : l.length ≤ 200) (K : Unit → Option (List TJJob × TJLoop × Int)) : ((∀ a ∈ l, 1 ≤ a.Do ∧ a.Do ≤ 6) ∧ lim (fun kk => Zc l K kk 0) = K ()) ∨ ((¬ ∀ a ∈ l, 1 ≤ a.Do ∧ a.Do ≤ 6) ∧ lim (fun kk => Zc l K kk 0) = some ([], qz, 3)) := by
 rcases rounds_lim (fun k (_ : Unit) i => Zc l K k i) (fun _ => K ()) l.length (fun i _ => ∀ a ∈ l.take i, 1 ≤ a.Do ∧ a.Do ≤ 6) (fun v => v = some ([], qz, 3) ∧ ¬ ∀ a ∈ l, 1 ≤ a.Do ∧ a.Do ≤ 6) () (fun _ h => by simp at h)
  (fun m s hs => by rw [Zc, if_neg (lt_neg _)])
  (fun s i hi hs => by
   by_cases hc : Z1 l[i].Do 1 6 = true
   ·refine .inl ⟨(), fun j hj => ?_, fun m => ?_⟩
    ·rw [take_succ_get hi, List.mem_append, List.mem_singleton] at hj
     rcases hj with hj | rfl
     ·exact hs j hj
     ·exact (within_iff _ _ _).1 hc
    ·rw [Zc, if_pos (lt_pos hi), at_some hi, Option.bind_some, hc, if_neg (by simp), wi_next hi (by omega)]
   ·refine .inr ⟨some ([], qz, 3), ⟨rfl, fun h => hc ((within_iff _ _ _).2 (h _ (List.getElem_mem hi)))⟩, fun m => ?_⟩
    rw [Zc, if_pos (lt_pos hi), at_some hi, Option.bind_some, if_pos (by simp [hc])]
    rfl) with ⟨s, hf, h⟩ | ⟨v, ⟨rfl, hf⟩, h⟩
 ·rw [take_all] at hf
  exact .inl ⟨hf, h⟩
 ·exact .inr ⟨hf, h⟩
theorem j1_bad (asks : List TJAsk) (say : Int) (h : say ≠ 0) : Z14 ([], qz, say) asks [] [] [] [] say = some true := by
 unfold Z14 Z2d
 rw [if_pos (by simpa using h), if_pos (by simp)]
 show (Z11 qz qz).bind _ = _
 rw [same_eq qz short_qz, Option.bind_some]
 simp
theorem pureLoopPlays : PureLoopPlays := by
 intro asks ha
 unfold Z2r Z2l
 by_cases hl : 200 < (asks.length : Int)
 ·rw [if_pos (by simpa using hl), Option.bind_some, if_pos (by simpa using hl)]
  exact j1_bad asks 2 (by decide)
 ·have hl' : asks.length ≤ 200 := by omega
  obtain ⟨b, e1, e2⟩ := asks_eq asks (by omega)
  rw [if_neg (by simpa using hl)]
  rcases forms_eq asks hl' (fun (_ : Unit) =>
    lim fun kk1 => Z4 asks (fun (q01 : Int) (q11 : Int) (q21 : (List TJJob)) (q31 : (List TJJob)) (q41 : (List TJTimer)) (out1 : (List TJJob)) =>
      some (out1, (⟨q01, q11, q21, q31, q41⟩ : TJLoop), 0)) kk1 0 0 ([] : List TJJob) ([] : List TJJob) ([] : List TJTimer) ([] : List TJJob) 0) with ⟨hf, h⟩ | ⟨hf, h⟩
  ·obtain ⟨p, o, a1, a2, a3, a4⟩ := plays asks hl' hf (fun (q01 : Int) (q11 : Int) (q21 : (List TJJob)) (q31 : (List TJJob)) (q41 : (List TJTimer)) (out1 : (List TJJob)) =>
      some (out1, (⟨q01, q11, q21, q31, q41⟩ : TJLoop), 0)) (fun (q01 : Int) (q11 : Int) (q21 : (List TJJob)) (q31 : (List TJJob)) (q41 : (List TJTimer)) (out1 : (List TJJob)) =>
   some (out1, (⟨q01, q11, q21, q31, q41⟩ : TJLoop))) asks.length 0 qz [] ok_qz (by simp) (by omega)
   have hb : b = false := e2.2 hf
   subst hb
   have ep : lim (fun kk1 => Z4 asks (fun (q01 : Int) (q11 : Int) (q21 : (List TJJob)) (q31 : (List TJJob)) (q41 : (List TJTimer)) (out1 : (List TJJob)) =>
      some (out1, (⟨q01, q11, q21, q31, q41⟩ : TJLoop), 0)) kk1 0 0 ([] : List TJJob) ([] : List TJJob) ([] : List TJTimer) ([] : List TJJob) 0) = some (o, p, 0) := lim_add (asks.length + 1) fun m => a3 m
   have er : Z2b asks = some (o, p) := by
    unfold Z2b
    exact lim_add (asks.length + 1) fun m => a4 m
   rw [h, ep, Option.bind_some, if_neg (by simpa using hl), e1, Option.bind_some, if_neg (by simp)]
   unfold Z14 Z2e
   rw [if_neg (by simp), er, Option.bind_some, same_jobs o (by omega), Option.bind_some, if_pos rfl]
   show (Z11 p p).bind _ = _
   rw [same_eq p a1.short, Option.bind_some]
   simp
  ·have hb : b = true := by
    cases b with
    | true => rfl
    | false => exact absurd (e2.1 rfl) hf
   subst hb
   rw [h, Option.bind_some, if_neg (by simpa using hl), e1, Option.bind_some, if_pos rfl]
   exact j1_bad asks 3 (by decide)
end Go.Proofs.YtoomjemboekooaaBv
-- squeezed
