/- The calculus: a text's runes in a row; a value that is an error or nil, of which only that is told. It proves nothing of any program. -/
import Derived.Test.YtjicgjhhiallkaaGreatDoorBv22
namespace Go.Proofs.YtjicgjhhiallkaaGreatDoorBv
open Go
set_option linter.unusedVariables false
set_option linter.unusedSimpArgs false

/-- the rune that begins at a place -/
def runeAt (l : List UInt8) (p : Nat) : Int := (Utf8.decode ⟨l.toArray⟩ p).1
/-- and the place behind it -/
def runeEnd (l : List UInt8) (p : Nat) : Nat := p + (Utf8.decode ⟨l.toArray⟩ p).2

section
variable {Γ : Glob} {h : Heap} {n : Nat} {env : Nat → Option AV} {x : Arg}
theorem s_rangeS {l : List UInt8} (hx : x.get Γ env = some (.c (.str l))) : step2 Γ ⟨env, h, n⟩ (.rangeS x) = some (some (.c (.ref n 0 0 0)), upd h n (some (.iter ⟨l.toArray⟩ 0)), n + 1) := by
  simp only [step2, hx]
theorem s_next1 {l : List UInt8} {b p : Nat} (hx : x.get Γ env = some (.c (.ref b 0 0 0))) (hb : h b = some (.iter ⟨l.toArray⟩ p)) (hc : decide (p < l.length) = true) :
    step2 Γ ⟨env, h, n⟩ (.nextS x) = some (some (.tup [.c (.val (.bool true)), .c (.val (.int .i64 (p : Int))), .c (.val (.int .i32 (runeAt l p)))]), upd h b (some (.iter ⟨l.toArray⟩ (runeEnd l p))), n) := by
  have hp : p < (⟨l.toArray⟩ : ByteArray).size := of_decide_eq_true (p := p < l.length) hc
  simp only [step2, hx, hb]
  rw [if_pos hp]
  rfl
theorem s_next0 {l : List UInt8} {b p : Nat} (hx : x.get Γ env = some (.c (.ref b 0 0 0))) (hb : h b = some (.iter ⟨l.toArray⟩ p)) (hc : decide (p < l.length) = false) :
    step2 Γ ⟨env, h, n⟩ (.nextS x) = some (some (.tup [.c (.val (.bool false))]), h, n) := by
  have hp : ¬ p < (⟨l.toArray⟩ : ByteArray).size := of_decide_eq_false (p := p < l.length) hc
  simp only [step2, hx, hb]
  rw [if_neg hp]

/-- an error, of which is told whether it is one -/
def errC (b : Bool) : Cel := bif b then .opq else .val .nilIface
theorem errC_free (b : Bool) : (errC b).free = true := by cases b <;> rfl
theorem errC_closed (b : Bool) : (errC b).closed = true := by cases b <;> rfl
theorem errC_map (ρ : Nat → Nat) (b : Bool) : (errC b).map ρ = errC b := by cases b <;> rfl
theorem s_eqe {neg b : Bool} (hx : x.get Γ env = some (.c (errC b))) : step1 Γ ⟨env, h, n⟩ (.eqi neg x) = some (B (if neg then b else !b)) := by
  cases b <;> cases neg <;> simp [step1, hx, errC, B]
/-- an error by its number: nil, or one of the library's own -/
def ierrC (T : TypeId) (k : Int) : Cel := if k = 0 then .val .nilIface else .val (.iface T (.int .i64 k))
theorem ierrC_free (T : TypeId) (k : Int) : (ierrC T k).free = true := by unfold ierrC; split <;> rfl
theorem ierrC_closed (T : TypeId) (k : Int) : (ierrC T k).closed = true := by unfold ierrC; split <;> rfl
theorem s_eqie {neg : Bool} {T : TypeId} {k : Int} (hx : x.get Γ env = some (.c (ierrC T k))) : step1 Γ ⟨env, h, n⟩ (.eqi neg x) = some (B (if neg then !decide (k = 0) else decide (k = 0))) := by
  unfold ierrC at hx
  split at hx <;> rename_i hk <;> cases neg <;> simp [step1, hx, hk, B]
end
/-! ### short words for printed texts (squeeze.py) -/
abbrev mV (d s : Nat) : AOper := ⟨some d, .mov (.tmp s), none⟩
abbrev oP (d : Nat) (o : AOp) : AOper := ⟨some d, o, none⟩
abbrev kI (n : Int) : Arg := .const (.c (.val (.int .i64 n)))
theorem nlz {p : Nat → Prop} (b : Nat) (h : b < 0) : p b := absurd h (Nat.not_lt_zero b)
abbrev Tx := List UInt8
abbrev TT := List (List UInt8)
abbrev e0 {α : Type} : Nat → Option α := fun _ => none
section
variable {σ : Nat → Nat} {h h' : Heap} {n' : Nat}
theorem EnvAs.cf {e e' : Nat → Option AV} {d : Nat} {v : AV} (h1 : e d = some v) (hf : v.free = true) (k : EnvAs σ h h' n' e e') : EnvAs σ h h' n' e (upd e' d (some v)) := .cons h1 (avAs_free hf) k
theorem CelsAs.sm {x : Cel} {xs ys : List Cel} (hf : x.free = true) (k : CelsAs σ h h' n' xs ys) : CelsAs σ h h' n' (x :: xs) (x :: ys) := .cons (.same hf) k
theorem wcn {e e' : Nat → Option AV} {n : Nat} (bs : List Nat) (hn : bs.length = n') (he : EnvAs (fun b => bs.getD b 0) h h' n' e e') (hh : HeapAs (fun b => bs.getD b 0) h h' n' h h') (hnd : bs.Nodup := by decide) : Weak 0 ⟨e, h, n⟩ ⟨e', h', n'⟩ :=
  weak_canon bs hn hnd (Nat.zero_le _) nlz he hh
end
section
variable {P : Program} {Γ : Glob} {k0 : Nat} {K : St → Prop} {l : List (AOper × Nat × Nat)} {env : Nat → Option AV} {h : Heap} {n : Nat}
theorem un1 {d : Nat} {o : AOp} {q i : Nat} {v : AV} (hs : step1 Γ ⟨env, h, n⟩ o = some v) (hk : evDrawn P Γ k0 K l ⟨upd env d (some v), h, n⟩) : evDrawn P Γ k0 K ((⟨some d, o, none⟩, q, i) :: l) ⟨env, h, n⟩ := un (a1 hs hk)
end
theorem srg {P : Program} {Γ : Glob} {k0 : Nat} {Q : AExit → St → Prop} {s : St} {l : List AOper} (h : evDrawn P Γ k0 (Q .normal) (ordered l) s) : Sv P Γ k0 (.region l) Q s := Sv.region h
theorem ssr {P : Program} {Γ : Glob} {k0 : Nat} {Q : AExit → St → Prop} {s : St} {l : List AOper} {y : ACode} (h : evDrawn P Γ k0 (AThen (Sv P Γ k0 y Q) Q .normal) (ordered l) s) : Sv P Γ k0 (.seq (.region l) y) Q s := Sv.seq (Sv.region h)
end Go.Proofs.YtjicgjhhiallkaaGreatDoorBv
