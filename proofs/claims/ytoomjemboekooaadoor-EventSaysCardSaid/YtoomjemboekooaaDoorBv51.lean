/- The calculus: the end of a list of the call's own, and clear of it. It proves nothing of any program. -/
import Derived.Test.YtoomjemboekooaaDoorBv35
import Derived.Test.YtoomjemboekooaaDoorBv23
namespace Go.Proofs.YtoomjemboekooaaDoorBv
open Go
set_option linter.unusedVariables false
set_option linter.unusedSimpArgs false
def sufC (z : Bool) (b sz a n : Nat) : Cel := bif z then .ro true sz [] else .own b sz a (n - a) (n - a)
abbrev sufV (z : Bool) (b sz a n : Nat) : AV := .c (sufC z b sz a n)
/-- a list whose end from element k on is zero -/
def clrd {α : Type} (xs : List α) (k : Int) (x0 : α) : List α := xs.take k.toNat ++ List.replicate (xs.length - k.toNat) x0
theorem clrd_nil {α : Type} {z : Bool} {xs : List α} {k : Int} {x0 : α} (hz : z = true → xs = []) : z = true → clrd xs k x0 = [] := fun h => by
  rw [hz h]; simp [clrd]
theorem s_suf {α : Type} {Γ : Glob} {env : Nat → Option AV} {h : Heap} {n b sz : Nat} {z : Bool} {x : Arg} {lo hi : Option Arg} {xs r : List α} {k : Int} (hx : x.get Γ env = some (lstV z b sz xs.length)) (hz : z = true → xs = [])
    (hlo : bnI Γ env 0 lo = some k) (hhi : bnI Γ env xs.length hi = some (xs.length : Int)) (hs : sub? xs k (xs.length : Int) = some r) : step1 Γ ⟨env, h, n⟩ (.slSl sz x lo hi none) = some (sufV z b sz k.toNat xs.length) := by
  obtain ⟨h0, h1, h2, rfl⟩ := sub_spec hs
  have hb : boundI Γ env xs.length xs.length hi = some xs.length := bound_of (Nat.le_refl _) hhi (by omega) h2
  have ha : boundI Γ env 0 xs.length lo = some k.toNat := bound_of (hi := xs.length) (Nat.zero_le _) hlo h0 h1
  cases z with
  | false =>
    have hx' : x.get Γ env = some (.c (.own b sz 0 xs.length xs.length)) := hx
    simp only [step1, hx', hb, ha, if_true, Nat.zero_add]
    rfl
  | true =>
    have hx' : x.get Γ env = some (.c (.ro true sz [])) := hx
    have e0 : xs = [] := hz rfl
    subst e0
    simp only [List.length_nil] at hb ha
    simp only [step1, hx', List.length_nil, hb, ha, decide_true, Bool.true_or, if_true, List.take_nil, List.drop_nil]
    rfl
theorem s_clr {α : Type} {e : α → List Cel} {Γ : Glob} {env : Nat → Option AV} {h : Heap} {n b sz : Nat} {z : Bool} {x : Arg} {xs : List α} {k : Int} {x0 : α} {z0 : List Cel} (hx : x.get Γ env = some (sufV z b sz k.toNat xs.length)) (hk : 0 ≤ k ∧ k ≤ (xs.length : Int))
    (hb : h b = lstB z sz (xs.map e)) (hz : z = true → xs = []) (h0 : e x0 = z0) : step2 Γ ⟨env, h, n⟩ (.clr sz z0 x) = some (none, upd h b (lstB z sz ((clrd xs k x0).map e)), n) := by
  subst h0
  cases z with
  | false =>
    have hx' : x.get Γ env = some (.c (.own b sz k.toNat (xs.length - k.toNat) (xs.length - k.toNat))) := hx
    have hb' : h b = some (.cells sz (xs.map e)) := hb
    have hl : k.toNat + (xs.length - k.toNat) = xs.length := by omega
    simp only [step2, hx', hb', List.length_map, hl, Nat.le_refl, and_self, if_true]
    unfold clrd
    rw [List.map_append, List.map_replicate, List.map_take, List.drop_eq_nil_of_le (by simp), List.append_nil]
    rfl
  | true =>
    have hx' : x.get Γ env = some (.c (.ro true sz [])) := hx
    have e0 : xs = [] := hz rfl
    subst e0
    have hb' : h b = none := hb
    simp only [step2, hx']
    have : upd h b (lstB true sz ((clrd ([] : List α) k x0).map e)) = h := by
      funext b'
      by_cases c : b' = b
      · subst c; rw [upd_same, hb']; rfl
      · rw [upd_ne _ _ c]
    rw [this]
theorem len_clrd {α : Type} {xs : List α} {k : Int} {x0 : α} (hk : 0 ≤ k ∧ k ≤ (xs.length : Int)) : xs.length = (clrd xs k x0).length := by
  unfold clrd; simp; omega
theorem sub_rng {α : Type} {xs r : List α} {k : Int} (hs : sub? xs k (xs.length : Int) = some r) : 0 ≤ k ∧ k ≤ (xs.length : Int) := ⟨(sub_spec hs).1, (sub_spec hs).2.1⟩
end Go.Proofs.YtoomjemboekooaaDoorBv
