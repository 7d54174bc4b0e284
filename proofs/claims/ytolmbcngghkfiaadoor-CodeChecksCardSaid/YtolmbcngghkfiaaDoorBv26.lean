/- The calculus: the library's contracts, met, further ones. It proves nothing of any program. -/
import Derived.Test.YtolmbcngghkfiaaDoorBv25
import Derived.Shelf.Small.Strs
import Derived.Shelf.Bits.Mul64
namespace Go.Proofs.YtolmbcngghkfiaaDoorBv
open Go
set_option linter.unusedVariables false
set_option linter.unusedSimpArgs false

theorem same_world {w : World} : w.heap.size ≤ w.heap.size ∧ (∀ k, k < w.heap.size → w.heap[k]? = w.heap[k]?) ∧ w.os = w.os ∧ w.tape = w.tape ∧ w.output = w.output := ⟨Nat.le_refl _, fun _ _ => rfl, rfl, rfl, rfl⟩
theorem tup2 {K : Ctx} {a b : AV} {u v : Value} (ha : RelV K a u) (hb : RelV K b v) : RelV K (.tup [a, b]) (.tuple #[u, v]) := by
  refine .tup rfl fun i x hi => ?_
  match i, hi with
  | 0, hi => cases hi; exact ha
  | 1, hi => cases hi; exact hb
/-! ### strings.Compare -/
def compareS? (a b : List UInt8) : Option Int := some (Lib.compareBytes a b)
theorem compareS_ok {P : Program} {ρ : Shelf.Ren} {Γ : Glob} (L : Lays.n106 P ρ) {a b : List UInt8} {r : Int} (h : compareS? a b = some r) :
    CPure P Γ (ρ.f 106) [.c (.str a), .c (.str b)] (.c (.val (.int .i64 r))) := by
  cases h
  refine cpure_of fun E w μ κ cargs H hsz hrel => ?_
  obtain ⟨s, rfl, e0⟩ := relS (hrel 0 _ rfl)
  obtain ⟨t, rfl, e1⟩ := relS (hrel 1 _ rfl)
  rw [arr2 hsz, e0, e1]
  refine (Any.strings_Compare L s t w).mono ?_
  rintro e w' ⟨rfl, rfl⟩
  exact ⟨_, rfl, fun K => .c (.val rfl), same_world⟩
/-! ### math/bits.Mul64 -/
def mul64? (x y : Int) : Option (Int × Int) := if (0 ≤ x ∧ x < 18446744073709551616) ∧ 0 ≤ y ∧ y < 18446744073709551616 then some (x * y / 18446744073709551616, x * y % 18446744073709551616) else none
theorem mul64_ok {P : Program} {ρ : Shelf.Ren} {Γ : Glob} (L : Lays.n264 P ρ) {x y : Int} {r : Int × Int} (h : mul64? x y = some r) :
    CPure P Γ (ρ.f 264) [.c (.val (.int .u64 x)), .c (.val (.int .u64 y))] (.tup [.c (.val (.int .u64 r.1)), .c (.val (.int .u64 r.2))]) := by
  unfold mul64? at h
  split at h
  · rename_i hn
    cases h
    refine cpure_of fun E w μ κ cargs H hsz hrel => ?_
    have e0 := relI (hrel 0 _ rfl)
    have e1 := relI (hrel 1 _ rfl)
    obtain ⟨m, rfl⟩ : ∃ m : Nat, x = m := ⟨x.toNat, by omega⟩
    obtain ⟨k, rfl⟩ : ∃ k : Nat, y = k := ⟨y.toNat, by omega⟩
    rw [arr2 hsz, e0, e1]
    refine (Any.bits_Mul64 L m k (by omega) (by omega) w).mono ?_
    rintro e w' ⟨rfl, rfl⟩
    refine ⟨_, rfl, fun K => ?_, same_world⟩
    have h1 : ((m : Int) * (k : Int)) / 18446744073709551616 = ((m * k / 18446744073709551616 : Nat) : Int) := by
      rw [Int.natCast_ediv, Int.natCast_mul]; rfl
    have h2 : ((m : Int) * (k : Int)) % 18446744073709551616 = ((m * k % 18446744073709551616 : Nat) : Int) := by
      rw [Int.natCast_emod, Int.natCast_mul]; rfl
    simp only [h1, h2]
    exact tup2 (.c (.val rfl)) (.c (.val rfl))
  · cases h
end Go.Proofs.YtolmbcngghkfiaaDoorBv
