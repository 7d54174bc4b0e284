/- The calculus: small laws of the words that the plain functions use. No program is in sight. -/
import Derived.Test.YtolmbcngghkfiaaDoorBv22
namespace Go.Proofs.YtolmbcngghkfiaaDoorBv
open Go
set_option linter.unusedVariables false
set_option linter.unusedSimpArgs false

theorem wi_id {n : Int} (h1 : -9223372036854775808 ≤ n) (h2 : n ≤ 9223372036854775807) : wi n = n := IntWalk.i64_in _ (by omega)
theorem wr_i64 (n : Int) : wr .i64 n = wi n := rfl
theorem wr_u32 (n : Int) : wr .u32 n = n % 4294967296 := by
  simp only [wr, IntKind.wrap, IntKind.bits, IntKind.signed]
  simp
theorem wr_u8 (n : Int) : wr .u8 n = n % 256 := by
  simp only [wr, IntKind.wrap, IntKind.bits, IntKind.signed]
  simp
theorem wr_u64 (n : Int) : wr .u64 n = n % 18446744073709551616 := by
  simp only [wr, IntKind.wrap, IntKind.bits, IntKind.signed]
  simp
theorem wi_range (n : Int) : -9223372036854775808 ≤ wi n ∧ wi n ≤ 9223372036854775807 := by
  simp only [wi, IntKind.wrap, IntKind.bits, IntKind.signed]
  simp
  split <;> omega
theorem letIn_eq {α β : Type} (e : α) (F : α → β) : letIn e F = F e := rfl
/-- a bound for all rounds: then it is that -/
theorem lim_eq {α : Type} {g : Nat → Option α} {c : Option α} (N : Nat) (h : ∀ k, N ≤ k → g k = c) : lim g = c := by
  cases c with
  | some r => exact lim_of N h
  | none =>
    cases e : lim g with
    | none => rfl
    | some r =>
      unfold lim at e
      split at e
      · rename_i hx
        obtain ⟨M, hM⟩ := hx.choose_spec
        have h1 := h (max N M) (Nat.le_max_left _ _)
        have h2 := hM (max N M) (Nat.le_max_right _ _)
        rw [h1] at h2
        cases h2
      · cases e
/-- rounds that are enough, as one more than a number -/
theorem lim_add {α : Type} {g : Nat → Option α} {c : Option α} (N : Nat) (h : ∀ k, g (k + N) = c) : lim g = c :=
  lim_eq N fun k hk => by obtain ⟨m, rfl⟩ : ∃ m, k = m + N := ⟨k - N, by omega⟩; exact h m
theorem at_nat {α : Type} (l : List α) (k : Nat) : at? l (k : Int) = l[k]? := by simp [at?]
theorem at_of {α : Type} {l : List α} {i : Int} (h0 : 0 ≤ i) : at? l i = l[i.toNat]? := if_pos h0
theorem at_some {α : Type} {l : List α} {k : Nat} (h : k < l.length) : at? l (k : Int) = some l[k] := by rw [at_nat]; exact List.getElem?_eq_getElem h
theorem shrq {k : IntKind} {x y : Int} (h : 0 ≤ y) : shr? k x y = some (shr k x y.toNat) := if_neg (by omega)
theorem shlq {k : IntKind} {x y : Int} (h : 0 ≤ y) : shl? k x y = some (shl k x y.toNat) := if_neg (by omega)
theorem quoq {k : IntKind} {x y : Int} (h : y ≠ 0) : quo? k x y = some (k.wrap (x.tdiv y)) := if_neg h
theorem remq {k : IntKind} {x y : Int} (h : y ≠ 0) : rem? k x y = some (x.tmod y) := if_neg h
theorem ok_i64 {x : Int} (h : (Lit.int .i64 x).wf = true) : -9223372036854775808 ≤ x ∧ x ≤ 9223372036854775807 := by
  simp only [Lit.wf, IntKind.min, IntKind.max, IntKind.bits, IntKind.signed] at h
  simp at h
  omega
theorem u8_all {p : UInt8 → Bool} (h : ((List.range 256).all fun n => p (UInt8.ofNat n)) = true) (c : UInt8) : p c = true := by
  have := List.all_eq_true.1 h c.toNat (List.mem_range.2 c.toNat_lt)
  rwa [UInt8.ofNat_toNat] at this
theorem sub_nat {α : Type} {l : List α} {a b : Nat} (h : a ≤ b) (hb : b ≤ l.length) : sub? l (a : Int) (b : Int) = some ((l.take b).drop a) := by
  unfold sub?
  rw [if_pos (by omega)]
  simp
theorem sub_drop {α : Type} {l : List α} {a : Nat} (h : a ≤ l.length) : sub? l (a : Int) (l.length : Int) = some (l.drop a) := by
  rw [sub_nat h (Nat.le_refl _), List.take_length]
theorem sub_take {α : Type} {l : List α} {b : Nat} (h : b ≤ l.length) : sub? l 0 (b : Int) = some (l.take b) := by
  have := sub_nat (l := l) (a := 0) (Nat.zero_le b) h
  simpa using this
theorem at_neg {α : Type} {l : List α} {i : Int} (h : i < 0) : at? l i = none := if_neg (by omega)
theorem at_none {α : Type} {l : List α} {k : Nat} (h : l.length ≤ k) : at? l (k : Int) = none := by rw [at_nat]; exact List.getElem?_eq_none h
theorem ints_length (l : List UInt8) : (ints l).length = l.length := by simp [ints]
theorem ints_get (l : List UInt8) (k : Nat) : (ints l)[k]? = l[k]?.map fun b => (b.toNat : Int) := by simp [ints]
theorem byts_length (l : List Int) : (byts l).length = l.length := by simp [byts]
theorem appq {α : Type} {bytes : Nat} {a b : List α} (h : (a.length + b.length) * bytes ≤ 140737488355328) : app? bytes a b = some (a ++ b) := if_pos h
theorem catq {a b : List UInt8} (h : a.length + b.length ≤ 9223372036854775807) : cat? a b = some (a ++ b) := if_pos h
theorem dropWhile_take {α : Type} (p : α → Bool) (l : List α) : (l.takeWhile p).length + (l.dropWhile p).length = l.length := by
  have := congrArg List.length (List.takeWhile_append_dropWhile (p := p) (l := l))
  rwa [List.length_append] at this
theorem drop_takeWhile {α : Type} (p : α → Bool) (l : List α) : l.drop (l.takeWhile p).length = l.dropWhile p := by
  conv => lhs; arg 2; rw [← List.takeWhile_append_dropWhile (p := p) (l := l)]
  rw [List.drop_left]
theorem take_takeWhile {α : Type} (p : α → Bool) (l : List α) : l.take (l.takeWhile p).length = l.takeWhile p := by
  conv => lhs; arg 2; rw [← List.takeWhile_append_dropWhile (p := p) (l := l)]
  rw [List.take_left]
end Go.Proofs.YtolmbcngghkfiaaDoorBv
