/- The calculus: a range over a map: whichever entry comes. It proves nothing of any program. -/
import Derived.Test.YtolmbcngghkfiaaDoorBv35
import Derived.Test.YtolmbcngghkfiaaDoorBv23
namespace Go.Proofs.YtolmbcngghkfiaaDoorBv
open Go
set_option linter.unusedVariables false
set_option linter.unusedSimpArgs false

def mitB {κ ν : Type} (m : MK) (ek : κ → Cel) (ev : ν → AV) (la : Option (κ × ν)) (l : List (κ × ν)) : Option Blk := some (.mit m (la.map fun p => (ek p.1, ev p.2)) (l.map fun p => (ek p.1, ev p.2)))
section
variable {P : Program} {Γ : Glob} {K : St → Prop} {κ ν : Type} {m : MK} {ek : κ → Cel} {ev : ν → AV} {l : List (κ × ν)} {la : Option (κ × ν)} {p : κ × ν} {env : Nat → Option AV} {h : Heap} {n b : Nat} {x : Arg}
theorem s_rangeM (hx : x.get Γ env = some (.c (.mp b))) (hb : h b = mapB m ek ev l) : step2 Γ ⟨env, h, n⟩ (.rangeM x) = some (some (.c (.ref n 0 0 0)), upd (upd h b none) n (mitB m ek ev none l), n + 1) := by
  simp only [step2, hx, hb, mapB, mitB, Option.map_none]
theorem s_entryM (hx : x.get Γ env = some (.c (.ref b 0 0 0))) (hb : h b = mitB m ek ev (some p) l) : step2 Γ ⟨env, h, n⟩ (.entryM x) = some (some (.tup [.c (ek p.1), ev p.2]), h, n) := by
  simp only [step2, hx, hb, mitB, Option.map_some]
theorem a_nextM {d q : Nat} (hx : x.get Γ env = some (.c (.ref b 0 0 0))) (hb : h b = mitB m ek ev la l) (h0 : l = [] → K ⟨upd env d (some (.tup [.c (.val (.bool false))])), h, n⟩)
    (h1 : ∀ i p, l[i]? = some p → K ⟨upd env d (some (.tup [.c (.val (.bool true)), .c (ek p.1), ev p.2])), upd h b (mitB m ek ev (some p) (l.eraseIdx i)), n⟩) : doneAt P Γ (q + 2) (some d) (.nextM x) K ⟨env, h, n⟩ := by
  show evAct P Γ (q + 1 == 0) ⟨some d, .nextM x, none⟩ K _
  have s1 : step1 Γ ⟨env, h, n⟩ (.nextM x) = none := rfl
  have s2 : step2 Γ ⟨env, h, n⟩ (.nextM x) = none := rfl
  have s3 : eqnC Γ ⟨env, h, n⟩ (.nextM x) = none := rfl
  unfold evAct
  simp only [s1, s2, s3]
  unfold NextTo
  simp only [hx, hb, mitB]
  refine ⟨rfl, fun e => h0 (List.map_eq_nil_iff.1 e), fun i p hi => ?_⟩
  rw [List.getElem?_map] at hi
  obtain ⟨p0, hp, rfl⟩ := Option.map_eq_some_iff.1 hi
  have := h1 i p0 hp
  unfold mitB at this
  have em : ∀ (q : List (κ × ν)) (j : Nat), (q.map fun p => (ek p.1, ev p.2)).eraseIdx j = (q.eraseIdx j).map fun p => (ek p.1, ev p.2) := fun q => by
    induction q with
    | nil => intro j; rfl
    | cons a r ih => intro j; cases j with
      | zero => rfl
      | succ j => simp only [List.map_cons, List.eraseIdx_cons_succ, ih]
  rw [em]
  exact this
end
open Classical in
/-- whichever entry comes, the end is one -/
noncomputable def pickM {α β : Type} (l : List α) (e : Option β) (F : α → List α → Option β) : Option β := match l with
  | [] => e
  | a :: r => if ∀ i p, (a :: r)[i]? = some p → F p ((a :: r).eraseIdx i) = F a r then F a r else none
theorem pickM_nil {α β : Type} {l : List α} {e : Option β} {F : α → List α → Option β} {o : β} (h : pickM l e F = some o) (hl : l = []) : e = some o := by
  subst hl
  exact h
theorem pickM_at {α β : Type} {l : List α} {e : Option β} {F : α → List α → Option β} {o : β} (h : pickM l e F = some o) {i : Nat} {p : α} (hi : l[i]? = some p) : F p (l.eraseIdx i) = some o := by
  cases l with
  | nil => simp at hi
  | cons a r =>
    unfold pickM at h
    simp only at h
    split at h
    · rename_i hc
      rw [hc i p hi]
      exact h
    · cases h
end Go.Proofs.YtolmbcngghkfiaaDoorBv
