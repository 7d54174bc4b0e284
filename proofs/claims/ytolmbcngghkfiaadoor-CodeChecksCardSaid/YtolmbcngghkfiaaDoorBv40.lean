/- The calculus: a text's runes in a row; a value that is an error or nil, of which only that is told. It proves nothing of any program. -/
import Derived.Test.YtolmbcngghkfiaaDoorBv22
namespace Go.Proofs.YtolmbcngghkfiaaDoorBv
open Go
set_option linter.unusedVariables false
set_option linter.unusedSimpArgs false

/-- the rune that begins at a place -/
def runeAt (l : List UInt8) (p : Nat) : Int := (Utf8.decode ⟨l.toArray⟩ p).1
/-- and the place behind it -/
def runeEnd (l : List UInt8) (p : Nat) : Nat := p + (Utf8.decode ⟨l.toArray⟩ p).2

section
variable {Γ : Glob} {h : Heap} {n : Nat} {env : Nat → Option AV} {x : Arg}
theorem s_rangeS {l : List UInt8} (hx : x.get Γ env = some (.c (.str l))) : step2 Γ ⟨env, h, n⟩ (.rangeS x) = some (some (.c (.ref n 0 0 0)), upd h n (some (.iter ⟨l.toArray⟩ 0)), n + 1) := by
  simp only [step2, hx]
theorem s_next1 {l : List UInt8} {b p : Nat} (hx : x.get Γ env = some (.c (.ref b 0 0 0))) (hb : h b = some (.iter ⟨l.toArray⟩ p)) (hc : decide (p < l.length) = true) :
    step2 Γ ⟨env, h, n⟩ (.nextS x) = some (some (.tup [.c (.val (.bool true)), .c (.val (.int .i64 (p : Int))), .c (.val (.int .i32 (runeAt l p)))]), upd h b (some (.iter ⟨l.toArray⟩ (runeEnd l p))), n) := by
  have hp : p < (⟨l.toArray⟩ : ByteArray).size := of_decide_eq_true (p := p < l.length) hc
  simp only [step2, hx, hb]
  rw [if_pos hp]
  rfl
theorem s_next0 {l : List UInt8} {b p : Nat} (hx : x.get Γ env = some (.c (.ref b 0 0 0))) (hb : h b = some (.iter ⟨l.toArray⟩ p)) (hc : decide (p < l.length) = false) :
    step2 Γ ⟨env, h, n⟩ (.nextS x) = some (some (.tup [.c (.val (.bool false))]), h, n) := by
  have hp : ¬ p < (⟨l.toArray⟩ : ByteArray).size := of_decide_eq_false (p := p < l.length) hc
  simp only [step2, hx, hb]
  rw [if_neg hp]

/-- an error, of which is told whether it is one -/
def errC (b : Bool) : Cel := bif b then .opq else .val .nilIface
theorem errC_free (b : Bool) : (errC b).free = true := by cases b <;> rfl
theorem errC_closed (b : Bool) : (errC b).closed = true := by cases b <;> rfl
theorem errC_map (ρ : Nat → Nat) (b : Bool) : (errC b).map ρ = errC b := by cases b <;> rfl
theorem s_eqe {neg b : Bool} (hx : x.get Γ env = some (.c (errC b))) : step1 Γ ⟨env, h, n⟩ (.eqi neg x) = some (B (if neg then b else !b)) := by
  cases b <;> cases neg <;> simp [step1, hx, errC, B]
/-- an error by its number: nil, or one of the library's own -/
def ierrC (T : TypeId) (k : Int) : Cel := if k = 0 then .val .nilIface else .val (.iface T (.int .i64 k))
theorem ierrC_free (T : TypeId) (k : Int) : (ierrC T k).free = true := by unfold ierrC; split <;> rfl
theorem ierrC_closed (T : TypeId) (k : Int) : (ierrC T k).closed = true := by unfold ierrC; split <;> rfl
theorem s_eqie {neg : Bool} {T : TypeId} {k : Int} (hx : x.get Γ env = some (.c (ierrC T k))) : step1 Γ ⟨env, h, n⟩ (.eqi neg x) = some (B (if neg then !decide (k = 0) else decide (k = 0))) := by
  unfold ierrC at hx
  split at hx <;> rename_i hk <;> cases neg <;> simp [step1, hx, hk, B]
end
/-! ### short words for printed texts (squeeze.py) -/
abbrev mV (d s : Nat) : AOper := ⟨some d, .mov (.tmp s), none⟩
abbrev oP (d : Nat) (o : AOp) : AOper := ⟨some d, o, none⟩
abbrev kI (n : Int) : Arg := .const (.c (.val (.int .i64 n)))
theorem nlz {p : Nat → Prop} (b : Nat) (h : b < 0) : p b := absurd h (Nat.not_lt_zero b)
abbrev Tx := List UInt8
abbrev TT := List (List UInt8)
abbrev e0 {α : Type} : Nat → Option α := fun _ => none
section
variable {σ : Nat → Nat} {h h' : Heap} {n' : Nat}
theorem EnvAs.cf {e e' : Nat → Option AV} {d : Nat} {v : AV} (h1 : e d = some v) (hf : v.free = true) (k : EnvAs σ h h' n' e e') : EnvAs σ h h' n' e (upd e' d (some v)) := .cons h1 (avAs_free hf) k
theorem CelsAs.sm {x : Cel} {xs ys : List Cel} (hf : x.free = true) (k : CelsAs σ h h' n' xs ys) : CelsAs σ h h' n' (x :: xs) (x :: ys) := .cons (.same hf) k
theorem wcn {e e' : Nat → Option AV} {n : Nat} (bs : List Nat) (hn : bs.length = n') (he : EnvAs (fun b => bs.getD b 0) h h' n' e e') (hh : HeapAs (fun b => bs.getD b 0) h h' n' h h') (hnd : bs.Nodup := by decide) : Weak 0 ⟨e, h, n⟩ ⟨e', h', n'⟩ :=
  weak_canon bs hn hnd (Nat.zero_le _) nlz he hh
end
section
variable {P : Program} {Γ : Glob} {k0 : Nat} {K : St → Prop} {l : List (AOper × Nat × Nat)} {env : Nat → Option AV} {h : Heap} {n : Nat}
theorem un1 {d : Nat} {o : AOp} {q i : Nat} {v : AV} (hs : step1 Γ ⟨env, h, n⟩ o = some v) (hk : evDrawn P Γ k0 K l ⟨upd env d (some v), h, n⟩) : evDrawn P Γ k0 K ((⟨some d, o, none⟩, q, i) :: l) ⟨env, h, n⟩ := un (a1 hs hk)
end
theorem srg {P : Program} {Γ : Glob} {k0 : Nat} {Q : AExit → St → Prop} {s : St} {l : List AOper} (h : evDrawn P Γ k0 (Q .normal) (ordered l) s) : Sv P Γ k0 (.region l) Q s := Sv.region h
theorem ssr {P : Program} {Γ : Glob} {k0 : Nat} {Q : AExit → St → Prop} {s : St} {l : List AOper} {y : ACode} (h : evDrawn P Γ k0 (AThen (Sv P Γ k0 y Q) Q .normal) (ordered l) s) : Sv P Γ k0 (.seq (.region l) y) Q s := Sv.seq (Sv.region h)
/-! ### more of them (squeeze3.py) -/
abbrev rnd (k0 : Nat) (I : Nat → St → Prop) (k : Nat) (Q : AExit → St → Prop) : St → Prop := AThen (fun s' => ∃ s'' k', Weak k0 s' s'' ∧ k' < k + 1 ∧ I k' s'') Q .normal
theorem Sv.cnd {P : Program} {Γ : Glob} {k0 : Nat} {Q : AExit → St → Prop} {s : St} {c : Arg} {x y : ACode} {b : Bool} {α : Type} {u v r : α} (hb : c.get Γ s.env = some (.c (.val (.bool b)))) (h : (if b = true then u else v) = r) (ht : u = r → Sv P Γ k0 x Q s) (hf : v = r → Sv P Γ k0 y Q s) : Sv P Γ k0 (.cond c x y) Q s :=
  Sv.cond hb (fun hc => ht (ifT hc h)) (fun hc => hf (ifF hc h))
theorem spl {P : Program} {Γ : Glob} {k0 : Nat} {K : St → Prop} {l : List (AOper × Nat × Nat)} {env : Nat → Option AV} {hp : Heap} {n d : Nat} {c : Bool} {α : Type} {u v r : α} (h : (if c = true then u else v) = r) (ht : u = r → evDrawn P Γ k0 K l ⟨upd env d (some (.c (.val (.bool true)))), hp, n⟩) (hf : v = r → evDrawn P Γ k0 K l ⟨upd env d (some (.c (.val (.bool false)))), hp, n⟩) :
    evDrawn P Γ k0 K l ⟨upd env d (some (.c (.val (.bool c)))), hp, n⟩ := split2 (fun hc => ht (ifT hc h)) (fun hc => hf (ifF hc h))
theorem hcs {p : Prop} (h : false = true) : p := by cases h
theorem rt0 {rs : List ARes} {α : Type} {post : α → AV → Heap → Nat → Prop} {x r : α} {s : St} {v : AV} (h : some x = some r) (hv : evResults s rs = some v) (hf : v.free = true) (hp : post x v (fun _ => none) 0) : Ends rs 0 (post r) .ret s := by
  cases h
  exact ⟨s, .refl _, v, hv, ⟨upd (fun _ => none) 0 (some v), fun _ => none, 0⟩, v, weak_canon [] rfl List.nodup_nil (Nat.le_refl _) (fun b h => absurd h (Nat.not_lt_zero _)) (.cons rfl (avAs_free hf) .nil) .nil, rfl, hp⟩
def ue : List (Nat × AV) → Nat → Option AV
  | [] => fun _ => none
  | p :: r => upd (ue r) p.1 (some p.2)
abbrev oN (o : AOp) : AOper := ⟨none, o, none⟩
abbrev kT : Arg := .const (.c (.val (.bool true)))
abbrev kF : Arg := .const (.c (.val (.bool false)))
abbrev sr (l : List AOper) (y : ACode) : ACode := .seq (.region l) y
theorem ndl {α : Type} : ([] : List α).Nodup := List.nodup_nil
theorem nll {n : Nat} : n ≤ n := Nat.le_refl n
theorem EnvSub.skp {e e' : Nat → Option AV} {d : Nat} {v : Option AV} (h : EnvSub e e') (hn : e d = none) : EnvSub e (upd e' d v) := .skip d v h hn
section
variable {σ : Nat → Nat} {h h' : Heap} {n' : Nat}
theorem EnvAs.cr {e e' : Nat → Option AV} {d b b' sz i j : Nat} (h1 : e d = some (.c (.ref b' sz i j))) (hb : b' = σ b) (hn : Nat.blt b n' = true) (k : EnvAs σ h h' n' e e') : EnvAs σ h h' n' e (upd e' d (some (.c (.ref b sz i j)))) := .cons h1 (.c (.ref hb (by simpa using hn))) k
theorem lsr {z : Bool} {b b' sz len : Nat} (hb : b' = σ b) (hn : Nat.blt b n' = true) : CelAs σ h h' n' (lstC z b' sz len) (lstC z b sz len) := lstC_ren hb (by simpa using hn)
end
end Go.Proofs.YtolmbcngghkfiaaDoorBv
