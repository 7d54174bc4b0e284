/- Loops over a list, said once: an invariant, rounds that go on, rounds that end it all. No program is in sight. -/
import Derived.Test.YtcnfmehidmjejaaDoorShCalcTells
import Derived.Test.YtcnfmehidmjejaaDoorBv23
namespace Go.Proofs.YtcnfmehidmjejaaDoorBv
open Go
set_option linter.unusedSimpArgs false
set_option linter.unusedVariables false
theorem rounds {σ β : Type} (F : Nat → σ → Int → Option β) (K : σ → Option β) (n : Nat) (I : Nat → σ → Prop) (E : Option β → Prop)
    (stop : ∀ m s, I n s → F (m + 1) s (n : Int) = K s)
    (step : ∀ s (i : Nat), i < n → I i s → (∃ s', I (i + 1) s' ∧ ∀ m, F (m + 1) s (i : Int) = F m s' ((i + 1 : Nat) : Int)) ∨ ∃ v, E v ∧ ∀ m, F (m + 1) s (i : Int) = v) :
    ∀ (c i : Nat) s, i + c = n → I i s → (∃ s', I n s' ∧ ∀ m, F (m + c + 1) s (i : Int) = K s') ∨ ∃ v, E v ∧ ∀ m, F (m + c + 1) s (i : Int) = v
  | 0, i, s, h, hi => by
    obtain rfl : i = n := by omega
    exact .inl ⟨s, hi, fun m => stop m s hi⟩
  | c + 1, i, s, h, hi => by
    rcases step s i (by omega) hi with ⟨s', h1, h2⟩ | ⟨v, h1, h2⟩
    · rcases rounds F K n I E stop step c (i + 1) s' (by omega) h1 with ⟨t, a, b⟩ | ⟨v, a, b⟩
      · exact .inl ⟨t, a, fun m => by rw [show m + (c + 1) + 1 = (m + c + 1) + 1 by omega, h2]; exact b m⟩
      · exact .inr ⟨v, a, fun m => by rw [show m + (c + 1) + 1 = (m + c + 1) + 1 by omega, h2]; exact b m⟩
    · exact .inr ⟨v, h1, fun m => h2 (m + (c + 1))⟩
theorem rounds_lim {σ β : Type} (F : Nat → σ → Int → Option β) (K : σ → Option β) (n : Nat) (I : Nat → σ → Prop) (E : Option β → Prop) (s : σ) (h0 : I 0 s)
    (stop : ∀ m s, I n s → F (m + 1) s (n : Int) = K s)
    (step : ∀ s (i : Nat), i < n → I i s → (∃ s', I (i + 1) s' ∧ ∀ m, F (m + 1) s (i : Int) = F m s' ((i + 1 : Nat) : Int)) ∨ ∃ v, E v ∧ ∀ m, F (m + 1) s (i : Int) = v) :
    (∃ s', I n s' ∧ lim (fun k => F k s 0) = K s') ∨ ∃ v, E v ∧ lim (fun k => F k s 0) = v := by
  rcases rounds F K n I E stop step n 0 s (by omega) h0 with ⟨t, a, b⟩ | ⟨v, a, b⟩
  · exact .inl ⟨t, a, lim_add (n + 1) fun m => b m⟩
  · exact .inr ⟨v, a, lim_add (n + 1) fun m => b m⟩
/-- rounds that all go on -/
theorem rounds_all {σ β : Type} (F : Nat → σ → Int → Option β) (K : σ → Option β) (n : Nat) (I : Nat → σ → Prop) (s : σ) (h0 : I 0 s)
    (stop : ∀ m s, I n s → F (m + 1) s (n : Int) = K s)
    (step : ∀ s (i : Nat), i < n → I i s → ∃ s', I (i + 1) s' ∧ ∀ m, F (m + 1) s (i : Int) = F m s' ((i + 1 : Nat) : Int)) :
    ∃ s', I n s' ∧ lim (fun k => F k s 0) = K s' := by
  rcases rounds_lim F K n I (fun _ => False) s h0 stop (fun s i a b => .inl (step s i a b)) with h | ⟨_, h, _⟩
  · exact h
  · exact h.elim
theorem wi_next {i n : Nat} (h : i < n) (hn : n ≤ 9223372036854775807) : wi ((i : Int) + 1) = ((i + 1 : Nat) : Int) := by
  rw [wi_id (by omega) (by omega)]; omega
theorem lt_pos {i n : Nat} (h : i < n) : decide ((i : Int) < (n : Int)) = true := by simp only [decide_eq_true_eq]; omega
theorem lt_neg (n : Nat) : ¬ decide ((n : Int) < (n : Int)) = true := by simp
theorem take_succ_get {α : Type} {l : List α} {i : Nat} (h : i < l.length) : l.take (i + 1) = l.take i ++ [l[i]] := by
  rw [List.take_add_one, List.getElem?_eq_getElem h]; rfl
theorem take_all {α : Type} (l : List α) : l.take l.length = l := List.take_length
end Go.Proofs.YtcnfmehidmjejaaDoorBv
