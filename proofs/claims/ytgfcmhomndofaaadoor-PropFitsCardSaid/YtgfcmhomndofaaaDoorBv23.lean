/- The calculus: small laws of the words that the plain functions use. No program is in sight. -/
import Derived.Test.YtgfcmhomndofaaaDoorBv22
namespace Go.Proofs.YtgfcmhomndofaaaDoorBv
open Go
set_option linter.unusedVariables false
set_option linter.unusedSimpArgs false

theorem wi_id {n : Int} (h1 : -9223372036854775808 ≤ n) (h2 : n ≤ 9223372036854775807) : wi n = n := IntWalk.i64_in _ (by omega)
theorem wr_i64 (n : Int) : wr .i64 n = wi n := rfl
theorem wr_u32 (n : Int) : wr .u32 n = n % 4294967296 := by
  simp only [wr, IntKind.wrap, IntKind.bits, IntKind.signed]
  simp
theorem wr_u8 (n : Int) : wr .u8 n = n % 256 := by
  simp only [wr, IntKind.wrap, IntKind.bits, IntKind.signed]
  simp
theorem wr_u64 (n : Int) : wr .u64 n = n % 18446744073709551616 := by
  simp only [wr, IntKind.wrap, IntKind.bits, IntKind.signed]
  simp
theorem wi_range (n : Int) : -9223372036854775808 ≤ wi n ∧ wi n ≤ 9223372036854775807 := by
  simp only [wi, IntKind.wrap, IntKind.bits, IntKind.signed]
  simp
  split <;> omega
theorem letIn_eq {α β : Type} (e : α) (F : α → β) : letIn e F = F e := rfl
/-- a bound for all rounds: then it is that -/
theorem lim_eq {α : Type} {g : Nat → Option α} {c : Option α} (N : Nat) (h : ∀ k, N ≤ k → g k = c) : lim g = c := by
  cases c with
  | some r => exact lim_of N h
  | none =>
    cases e : lim g with
    | none => rfl
    | some r =>
      unfold lim at e
      split at e
      · rename_i hx
        obtain ⟨M, hM⟩ := hx.choose_spec
        have h1 := h (max N M) (Nat.le_max_left _ _)
        have h2 := hM (max N M) (Nat.le_max_right _ _)
        rw [h1] at h2
        cases h2
      · cases e
/-- rounds that are enough, as one more than a number -/
theorem lim_add {α : Type} {g : Nat → Option α} {c : Option α} (N : Nat) (h : ∀ k, g (k + N) = c) : lim g = c :=
  lim_eq N fun k hk => by obtain ⟨m, rfl⟩ : ∃ m, k = m + N := ⟨k - N, by omega⟩; exact h m
theorem at_nat {α : Type} (l : List α) (k : Nat) : at? l (k : Int) = l[k]? := by simp [at?]
theorem at_of {α : Type} {l : List α} {i : Int} (h0 : 0 ≤ i) : at? l i = l[i.toNat]? := if_pos h0
theorem at_some {α : Type} {l : List α} {k : Nat} (h : k < l.length) : at? l (k : Int) = some l[k] := by rw [at_nat]; exact List.getElem?_eq_getElem h
theorem shrq {k : IntKind} {x y : Int} (h : 0 ≤ y) : shr? k x y = some (shr k x y.toNat) := if_neg (by omega)
theorem shlq {k : IntKind} {x y : Int} (h : 0 ≤ y) : shl? k x y = some (shl k x y.toNat) := if_neg (by omega)
theorem quoq {k : IntKind} {x y : Int} (h : y ≠ 0) : quo? k x y = some (k.wrap (x.tdiv y)) := if_neg h
theorem remq {k : IntKind} {x y : Int} (h : y ≠ 0) : rem? k x y = some (x.tmod y) := if_neg h
theorem ok_i64 {x : Int} (h : (Lit.int .i64 x).wf = true) : -9223372036854775808 ≤ x ∧ x ≤ 9223372036854775807 := by
  simp only [Lit.wf, IntKind.min, IntKind.max, IntKind.bits, IntKind.signed] at h
  simp at h
  omega
end Go.Proofs.YtgfcmhomndofaaaDoorBv
