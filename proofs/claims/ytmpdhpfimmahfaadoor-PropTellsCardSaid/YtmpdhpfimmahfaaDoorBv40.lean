/- The calculus: a text's runes in a row; a value that is an error or nil, of which only that is told. It proves nothing of any program. -/
import Derived.Test.YtmpdhpfimmahfaaDoorBv22
namespace Go.Proofs.YtmpdhpfimmahfaaDoorBv
open Go
set_option linter.unusedVariables false
set_option linter.unusedSimpArgs false

/-- the rune that begins at a place -/
def runeAt (l : List UInt8) (p : Nat) : Int := (Utf8.decode ⟨l.toArray⟩ p).1
/-- and the place behind it -/
def runeEnd (l : List UInt8) (p : Nat) : Nat := p + (Utf8.decode ⟨l.toArray⟩ p).2

section
variable {Γ : Glob} {h : Heap} {n : Nat} {env : Nat → Option AV} {x : Arg}
theorem s_rangeS {l : List UInt8} (hx : x.get Γ env = some (.c (.str l))) : step2 Γ ⟨env, h, n⟩ (.rangeS x) = some (some (.c (.ref n 0 0 0)), upd h n (some (.iter ⟨l.toArray⟩ 0)), n + 1) := by
  simp only [step2, hx]
theorem s_next1 {l : List UInt8} {b p : Nat} (hx : x.get Γ env = some (.c (.ref b 0 0 0))) (hb : h b = some (.iter ⟨l.toArray⟩ p)) (hc : decide (p < l.length) = true) :
    step2 Γ ⟨env, h, n⟩ (.nextS x) = some (some (.tup [.c (.val (.bool true)), .c (.val (.int .i64 (p : Int))), .c (.val (.int .i32 (runeAt l p)))]), upd h b (some (.iter ⟨l.toArray⟩ (runeEnd l p))), n) := by
  have hp : p < (⟨l.toArray⟩ : ByteArray).size := of_decide_eq_true (p := p < l.length) hc
  simp only [step2, hx, hb]
  rw [if_pos hp]
  rfl
theorem s_next0 {l : List UInt8} {b p : Nat} (hx : x.get Γ env = some (.c (.ref b 0 0 0))) (hb : h b = some (.iter ⟨l.toArray⟩ p)) (hc : decide (p < l.length) = false) :
    step2 Γ ⟨env, h, n⟩ (.nextS x) = some (some (.tup [.c (.val (.bool false))]), h, n) := by
  have hp : ¬ p < (⟨l.toArray⟩ : ByteArray).size := of_decide_eq_false (p := p < l.length) hc
  simp only [step2, hx, hb]
  rw [if_neg hp]

/-- an error, of which is told whether it is one -/
def errC (b : Bool) : Cel := bif b then .opq else .val .nilIface
theorem errC_free (b : Bool) : (errC b).free = true := by cases b <;> rfl
theorem errC_closed (b : Bool) : (errC b).closed = true := by cases b <;> rfl
theorem errC_map (ρ : Nat → Nat) (b : Bool) : (errC b).map ρ = errC b := by cases b <;> rfl
theorem s_eqe {neg b : Bool} (hx : x.get Γ env = some (.c (errC b))) : step1 Γ ⟨env, h, n⟩ (.eqi neg x) = some (B (if neg then b else !b)) := by
  cases b <;> cases neg <;> simp [step1, hx, errC, B]
/-- an error by its number: nil, or one of the library's own -/
def ierrC (T : TypeId) (k : Int) : Cel := if k = 0 then .val .nilIface else .val (.iface T (.int .i64 k))
theorem ierrC_free (T : TypeId) (k : Int) : (ierrC T k).free = true := by unfold ierrC; split <;> rfl
theorem ierrC_closed (T : TypeId) (k : Int) : (ierrC T k).closed = true := by unfold ierrC; split <;> rfl
theorem s_eqie {neg : Bool} {T : TypeId} {k : Int} (hx : x.get Γ env = some (.c (ierrC T k))) : step1 Γ ⟨env, h, n⟩ (.eqi neg x) = some (B (if neg then !decide (k = 0) else decide (k = 0))) := by
  unfold ierrC at hx
  split at hx <;> rename_i hk <;> cases neg <;> simp [step1, hx, hk, B]
end
end Go.Proofs.YtmpdhpfimmahfaaDoorBv
