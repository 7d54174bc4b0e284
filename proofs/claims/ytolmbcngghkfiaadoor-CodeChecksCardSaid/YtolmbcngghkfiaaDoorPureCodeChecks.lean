/- The law CodeChecks, over plain values, in parts. No program is in sight. -/
import Derived.Test.YtolmbcngghkfiaaDoorShCodeChecks
import Derived.Test.YtolmbcngghkfiaaDoorBv23
/- Loops over a list, said once: an invariant, rounds that go on, rounds that end it all. No program is in sight. -/
namespace Go.Proofs.YtolmbcngghkfiaaDoorBv
open Go
set_option linter.unusedSimpArgs false
set_option linter.unusedVariables false
theorem rounds {σ β : Type} (F : Nat → σ → Int → Option β) (K : σ → Option β) (n : Nat) (I : Nat → σ → Prop) (E : Option β → Prop)
  (stop : ∀ m s, I n s → F (m + 1) s (n : Int) = K s)
  (step : ∀ s (i : Nat), i < n → I i s → (∃ s', I (i + 1) s' ∧ ∀ m, F (m + 1) s (i : Int) = F m s' ((i + 1 : Nat) : Int)) ∨ ∃ v, E v ∧ ∀ m, F (m + 1) s (i : Int) = v) :
  ∀ (c i : Nat) s, i + c = n → I i s → (∃ s', I n s' ∧ ∀ m, F (m + c + 1) s (i : Int) = K s') ∨ ∃ v, E v ∧ ∀ m, F (m + c + 1) s (i : Int) = v
 | 0, i, s, h, hi => by
  obtain rfl : i = n := by omega
  exact .inl ⟨s, hi, fun m => stop m s hi⟩
 | c + 1, i, s, h, hi => by
  rcases step s i (by omega) hi with ⟨s', h1, h2⟩ | ⟨v, h1, h2⟩
  ·rcases rounds F K n I E stop step c (i + 1) s' (by omega) h1 with ⟨t, a, b⟩ | ⟨v, a, b⟩
   ·exact .inl ⟨t, a, fun m => by rw [show m + (c + 1) + 1 = (m + c + 1) + 1 by omega, h2]; exact b m⟩
   ·exact .inr ⟨v, a, fun m => by rw [show m + (c + 1) + 1 = (m + c + 1) + 1 by omega, h2]; exact b m⟩
  ·exact .inr ⟨v, h1, fun m => h2 (m + (c + 1))⟩
theorem rounds_lim {σ β : Type} (F : Nat → σ → Int → Option β) (K : σ → Option β) (n : Nat) (I : Nat → σ → Prop) (E : Option β → Prop) (s : σ) (h0 : I 0 s)
  (stop : ∀ m s, I n s → F (m + 1) s (n : Int) = K s)
  (step : ∀ s (i : Nat), i < n → I i s → (∃ s', I (i + 1) s' ∧ ∀ m, F (m + 1) s (i : Int) = F m s' ((i + 1 : Nat) : Int)) ∨ ∃ v, E v ∧ ∀ m, F (m + 1) s (i : Int) = v) (hn : n ≤ 4611686018427387903 := by omega) :
  (∃ s', I n s' ∧ lim (fun k => F k s 0) = K s') ∨ ∃ v, E v ∧ lim (fun k => F k s 0) = v := by
 rcases rounds F K n I E stop step n 0 s (by omega) h0 with ⟨t, a, b⟩ | ⟨v, a, b⟩
 ·exact .inl ⟨t, a, lim_add (n + 1) fun m => b m⟩
 ·exact .inr ⟨v, a, lim_add (n + 1) fun m => b m⟩
/-- rounds that all go on -/
theorem rounds_all {σ β : Type} (F : Nat → σ → Int → Option β) (K : σ → Option β) (n : Nat) (I : Nat → σ → Prop) (s : σ) (h0 : I 0 s)
  (stop : ∀ m s, I n s → F (m + 1) s (n : Int) = K s)
  (step : ∀ s (i : Nat), i < n → I i s → ∃ s', I (i + 1) s' ∧ ∀ m, F (m + 1) s (i : Int) = F m s' ((i + 1 : Nat) : Int)) (hn : n ≤ 4611686018427387903 := by omega) :
  ∃ s', I n s' ∧ lim (fun k => F k s 0) = K s' := by
 rcases rounds_lim F K n I (fun _ => False) s h0 stop (fun s i a b => .inl (step s i a b)) with h | ⟨_, h, _⟩
 ·exact h
 ·exact h.elim
theorem wi_next {i n : Nat} (h : i < n) (hn : n ≤ 9223372036854775807) : wi ((i : Int) + 1) = ((i + 1 : Nat) : Int) := by
 rw [wi_id (by omega) (by omega)]; omega
theorem lt_pos {i n : Nat} (h : i < n) : decide ((i : Int) < (n : Int)) = true := by simp only [decide_eq_true_eq]; omega
theorem lt_neg (n : Nat) : ¬ decide ((n : Int) < (n : Int)) = true := by simp
theorem take_succ_get {α : Type} {l : List α} {i : Nat} (h : i < l.length) : l.take (i + 1) = l.take i ++ [l[i]] := by
 rw [List.take_add_one, List.getElem?_eq_getElem h]; rfl
theorem take_all {α : Type} (l : List α) : l.take l.length = l := List.take_length
end Go.Proofs.YtolmbcngghkfiaaDoorBv
/- A program's form: what its instructions may name, by the program and by the document. No program is in sight. -/
namespace Go.Proofs.YtolmbcngghkfiaaDoorBv
open Go
set_option linter.unusedSimpArgs false
set_option linter.unusedVariables false
def boundN (p : TJProg) (f : TJFunc) (d : Int) : Int :=
 if d = 1 then (p.Consts.length : Int) else if d = 2 ∨ d = 3 ∨ d = 4 ∨ d = 5 then f.Slots else if d = 7 then 2 else if d = 8 then 11
 else if d = 9 ∨ d = 10 ∨ d = 20 ∨ d = 24 then (f.Code.length : Int) else if d = 12 ∨ d = 17 then 401 else if d = 13 then (p.Shapes.length : Int)
 else if d = 16 then (p.Funcs.length : Int) else 1
/-- what an instruction may be -/
structure InsOK (p : TJProg) (f : TJFunc) (i : TJIns) : Prop where
 d1 : 1 ≤ i.Do
 d2 : i.Do ≤ 25
 a1 : 0 ≤ i.A
 a2 : i.A < boundN p f i.Do
 fn : i.Do = 16 → i.A ≠ 0 ∧ ∀ g, p.Funcs[i.A.toNat]? = some g → ∀ s, s ∈ g.Caught → 0 ≤ s ∧ s < f.Slots
def HeadOK (f : TJFunc) : Prop := 0 ≤ f.Params ∧ 0 ≤ f.Slots ∧ f.Params ≤ f.Slots - (f.Caught.length : Int)
/-- a function that is not too long -/
structure Sm (p : TJProg) (f : TJFunc) : Prop where
 code : f.Code.length ≤ 8000
 slots : f.Slots ≤ 400
 slots0 : -9223372036854775808 ≤ f.Slots
 caught : f.Caught.length ≤ 140737488355328
 fs : p.Funcs.length ≤ 400
 cs : p.Consts.length ≤ 400
 ss : p.Shapes.length ≤ 400
 all : ∀ g, g ∈ p.Funcs → g.Caught.length ≤ 140737488355328
 sl : ∀ s, s ∈ p.Shapes → s.length ≤ 140737488355328
theorem signs_eq : ∃ l, Z1d = some l ∧ l.length = 11 := by
 refine ⟨Lib.fields [61, 61, 32, 33, 61, 32, 60, 32, 60, 61, 32, 62, 32, 62, 61, 32, 43, 32, 45, 32, 42, 32, 47, 32, 37], ?_, by decide +kernel⟩
 unfold Z1d
 show (fields? _).bind _ = _
 unfold fields?
 rw [if_pos (by decide)]
 rfl
theorem bound1_eq (c : Tchecker) (i : TJIns) : Z12 c i = some (boundN c.f_p c.f_f i.Do, c) := by
 obtain ⟨l, hl, hn⟩ := signs_eq
 unfold Z12 Z10 Zz Z1i boundN
 rw [hl]
 simp only [decide_eq_true_eq, Option.bind_some, hn]
 by_cases h1 : i.Do = 1
 ·simp [h1]
 by_cases h2 : i.Do = 2
 ·simp [h2]
 by_cases h3 : i.Do = 3
 ·simp [h3]
 by_cases h4 : i.Do = 4
 ·simp [h4]
 by_cases h5 : i.Do = 5
 ·simp [h5]
 by_cases h7 : i.Do = 7
 ·simp [h7]
 by_cases h8 : i.Do = 8
 ·simp [h8]
 by_cases h9 : i.Do = 9
 ·simp [h9]
 by_cases h10 : i.Do = 10
 ·simp [h10]
 by_cases h20 : i.Do = 20
 ·simp [h20]
 by_cases h24 : i.Do = 24
 ·simp [h24]
 by_cases h12 : i.Do = 12
 ·simp [h12]
 by_cases h17 : i.Do = 17
 ·simp [h17]
 by_cases h13 : i.Do = 13
 ·simp [h13]
 by_cases h16 : i.Do = 16
 ·simp [h16]
 simp [h1, h2, h3, h4, h5, h7, h8, h9, h10, h20, h24, h12, h17, h13, h16]
/-- the slots that another function keeps -/
theorem caught1 (c : Tchecker) (x1 : TJFunc) (x : TJIns) (v34 : Int) (K2 : Unit → Option (Bool × Tchecker)) (hn : x1.Caught.length ≤ 140737488355328) :
  ((∀ s, s ∈ x1.Caught → x.A ≠ 0 ∧ 0 ≤ s ∧ s < c.f_f.Slots) ∧ (lim fun kk => Za x1 x c c.f_p.Funcs c.f_p.Consts c.f_p.Shapes c.f_f.Params c.f_f.Slots c.f_f.Caught c.f_f.Code c.f_own c.f_seen c.f_todo c.f_bad v34 K2 kk 0) = K2 ()) ∨
  ((¬ ∀ s, s ∈ x1.Caught → x.A ≠ 0 ∧ 0 ≤ s ∧ s < c.f_f.Slots) ∧ (lim fun kk => Za x1 x c c.f_p.Funcs c.f_p.Consts c.f_p.Shapes c.f_f.Params c.f_f.Slots c.f_f.Caught c.f_f.Code c.f_own c.f_seen c.f_todo c.f_bad v34 K2 kk 0) = some (false, c)) := by
 have R := rounds_lim (σ := Unit) (fun k _ v => Za x1 x c c.f_p.Funcs c.f_p.Consts c.f_p.Shapes c.f_f.Params c.f_f.Slots c.f_f.Caught c.f_f.Code c.f_own c.f_seen c.f_todo c.f_bad v34 K2 k v) (fun _ => K2 ()) x1.Caught.length
  (fun i _ => ∀ s, s ∈ x1.Caught.take i → x.A ≠ 0 ∧ 0 ≤ s ∧ s < c.f_f.Slots) (fun v => v = some (false, c) ∧ ¬ ∀ s, s ∈ x1.Caught → x.A ≠ 0 ∧ 0 ≤ s ∧ s < c.f_f.Slots) () (by simp)
  (fun m s _ => by rw [Za, if_neg (lt_neg _)])
  (fun s i hi hI => by
   by_cases hb : x.A = 0 ∨ x1.Caught[i] < 0 ∨ c.f_f.Slots ≤ x1.Caught[i]
   ·refine .inr ⟨_, ⟨rfl, fun h => ?_⟩, fun m => ?_⟩
    ·have := h x1.Caught[i] (List.getElem_mem hi)
     omega
    ·rw [Za, if_pos (lt_pos hi), at_some hi, Option.bind_some, if_pos (by simp only [Bool.or_eq_true, decide_eq_true_eq]; omega)]
   ·refine .inl ⟨(), fun s hs => ?_, fun m => ?_⟩
    ·rw [take_succ_get hi, List.mem_append, List.mem_singleton] at hs
     rcases hs with hs | rfl
     ·exact hI s hs
     ·omega
    ·rw [Za, if_pos (lt_pos hi), at_some hi, Option.bind_some, if_neg (by simp only [Bool.or_eq_true, decide_eq_true_eq]; omega), wi_next hi (by omega)])
 rcases R with ⟨_, h1, h2⟩ | ⟨v, ⟨rfl, h1⟩, h2⟩
 ·rw [take_all] at h1
  exact .inl ⟨h1, h2⟩
 ·exact .inr ⟨h1, h2⟩
theorem form1_eq (c : Tchecker) (S : Sm c.f_p c.f_f) : ∃ b, Z1j c = some (b, c) ∧ (b = true ↔ HeadOK c.f_f ∧ ∀ i, i ∈ c.f_f.Code → InsOK c.f_p c.f_f i) := by
 have s1 := S.code
 have s2 := S.slots
 have s3 := S.slots0
 have s4 := S.caught
 unfold Z1j
 by_cases hh : HeadOK c.f_f
 ·have hh' := hh
  unfold HeadOK at hh'
  rw [if_neg (by rw [wi_id (by omega) (by omega)]; simp only [Bool.or_eq_true, decide_eq_true_eq]; omega)]
  generalize hK : (fun (c01 : (List TJFunc)) (c11 : (List TJVal)) (c21 : (List (List (List UInt8)))) (c31 : Int) (c41 : Int) (c51 : (List Int)) (c61 : (List TJIns)) (c71 : Int) (c81 : (List (Int × Tstate))) (c91 : (List Int)) (c101 : Bool) => (some (true, (⟨(⟨c01, c11, c21⟩ : TJProg), (⟨c31, c41, c51, c61⟩ : TJFunc), c71, c81, c91, c101⟩ : Tchecker)) : Option (Bool × Tchecker))) = K
  have hKc : K c.f_p.Funcs c.f_p.Consts c.f_p.Shapes c.f_f.Params c.f_f.Slots c.f_f.Caught c.f_f.Code c.f_own c.f_seen c.f_todo c.f_bad = some (true, c) := by rw [← hK]
  have R := rounds_lim (σ := Unit) (fun k _ v => Z4 c K k c.f_p.Funcs c.f_p.Consts c.f_p.Shapes c.f_f.Params c.f_f.Slots c.f_f.Caught c.f_f.Code c.f_own c.f_seen c.f_todo c.f_bad v) (fun _ => some (true, c)) c.f_f.Code.length
   (fun i _ => ∀ s, s ∈ c.f_f.Code.take i → InsOK c.f_p c.f_f s) (fun v => v = some (false, c) ∧ ¬ ∀ s, s ∈ c.f_f.Code → InsOK c.f_p c.f_f s) () (by simp)
   (fun m s _ => by rw [Z4, if_neg (lt_neg _), hKc])
   (fun s i hi hI => by
    generalize hx : c.f_f.Code[i] = x
    have hmem : x ∈ c.f_f.Code := hx ▸ List.getElem_mem hi
    have hgo : ∀ m, Z4 c K (m + 1) c.f_p.Funcs c.f_p.Consts c.f_p.Shapes c.f_f.Params c.f_f.Slots c.f_f.Caught c.f_f.Code c.f_own c.f_seen c.f_todo c.f_bad (i : Int) =
      Zk x c (i : Int) (Z4 c K m) K c.f_p.Funcs c.f_p.Consts c.f_p.Shapes c.f_f.Params c.f_f.Slots c.f_f.Caught c.f_f.Code c.f_own c.f_seen c.f_todo c.f_bad (decide (x.Do < 1 ∨ 25 < x.Do ∨ x.A < 0 ∨ boundN c.f_p c.f_f x.Do ≤ x.A)) := by
     intro m
     rw [Z4, if_pos (lt_pos hi), at_some hi, Option.bind_some, hx]
     by_cases h0 : x.Do < 1 ∨ 25 < x.Do ∨ x.A < 0
     ·rw [if_pos (by simp only [Bool.or_eq_true, decide_eq_true_eq]; omega)]
      rw [show decide (x.Do < 1 ∨ 25 < x.Do ∨ x.A < 0 ∨ boundN c.f_p c.f_f x.Do ≤ x.A) = true by simp only [decide_eq_true_eq]; omega]
     ·rw [if_neg (by simp only [Bool.or_eq_true, decide_eq_true_eq]; omega)]
      have e : Z12 (⟨(⟨c.f_p.Funcs, c.f_p.Consts, c.f_p.Shapes⟩ : TJProg), (⟨c.f_f.Params, c.f_f.Slots, c.f_f.Caught, c.f_f.Code⟩ : TJFunc), c.f_own, c.f_seen, c.f_todo, c.f_bad⟩ : Tchecker) x = some (boundN c.f_p c.f_f x.Do, c) := bound1_eq c x
      rw [e, Option.bind_some]
      rw [show decide (x.Do < 1 ∨ 25 < x.Do ∨ x.A < 0 ∨ boundN c.f_p c.f_f x.Do ≤ x.A) = decide (boundN c.f_p c.f_f x.Do ≤ x.A) by by_cases hb : boundN c.f_p c.f_f x.Do ≤ x.A <;> simp only [hb, decide_true, decide_false, decide_eq_true_eq, decide_eq_false_iff_not, or_false, or_true] <;> omega]
    have hnext : ∀ m, Zq (i : Int) c (Z4 c K m) K c.f_p.Funcs c.f_p.Consts c.f_p.Shapes c.f_f.Params c.f_f.Slots c.f_f.Caught c.f_f.Code c.f_own c.f_seen c.f_todo c.f_bad = Z4 c K m c.f_p.Funcs c.f_p.Consts c.f_p.Shapes c.f_f.Params c.f_f.Slots c.f_f.Caught c.f_f.Code c.f_own c.f_seen c.f_todo c.f_bad ((i + 1 : Nat) : Int) := by
     intro m
     unfold Zq
     rw [wi_next hi (by omega)]
    by_cases hb : x.Do < 1 ∨ 25 < x.Do ∨ x.A < 0 ∨ boundN c.f_p c.f_f x.Do ≤ x.A
    ·refine .inr ⟨_, ⟨rfl, fun h => ?_⟩, fun m => ?_⟩
     ·have := h x hmem
      have a := this.d1; have b := this.d2; have d := this.a1; have e := this.a2
      omega
     ·rw [hgo, decide_eq_true hb]
      unfold Zk
      rw [if_pos rfl]
    ·have q1 : 1 ≤ x.Do := by omega
     have q2 : x.Do ≤ 25 := by omega
     have q3 : 0 ≤ x.A := by omega
     have q4 : x.A < boundN c.f_p c.f_f x.Do := by omega
     have hbN : decide (x.Do < 1 ∨ 25 < x.Do ∨ x.A < 0 ∨ boundN c.f_p c.f_f x.Do ≤ x.A) = false := decide_eq_false hb
     by_cases h16 : x.Do = 16
     ·have q5 : x.A < (c.f_p.Funcs.length : Int) := by
       have := q4
       rw [h16] at this
       unfold boundN at this
       simpa using this
      have q6 : x.A.toNat < c.f_p.Funcs.length := by omega
      have hat : at? c.f_p.Funcs x.A = some c.f_p.Funcs[x.A.toNat] := by
       rw [at_of q3]; exact List.getElem?_eq_getElem q6
      rcases caught1 c c.f_p.Funcs[x.A.toNat] x (i : Int) (fun _ => if decide (x.A = 0) then some (false, c) else none) (S.all _ (List.getElem_mem q6)) with hc | hc
      ·by_cases hA : x.A = 0
       ·refine .inr ⟨_, ⟨rfl, fun h => ?_⟩, fun m => ?_⟩
        ·exact ((h x hmem).fn h16).1 hA
        ·rw [hgo, hbN]
         unfold Zk
         rw [if_neg Bool.false_ne_true, if_pos (by simpa using h16), hat, Option.bind_some]
         rcases caught1 c c.f_p.Funcs[x.A.toNat] x (i : Int) (fun (_ : Unit) => 
     if decide (x.A = 0) then
      some (false, (⟨(⟨c.f_p.Funcs, c.f_p.Consts, c.f_p.Shapes⟩ : TJProg), (⟨c.f_f.Params, c.f_f.Slots, c.f_f.Caught, c.f_f.Code⟩ : TJFunc), c.f_own, c.f_seen, c.f_todo, c.f_bad⟩ : Tchecker))
     else
      Zq (i : Int) c (Z4 c K m) K c.f_p.Funcs c.f_p.Consts c.f_p.Shapes c.f_f.Params c.f_f.Slots c.f_f.Caught c.f_f.Code c.f_own c.f_seen c.f_todo c.f_bad) (S.all _ (List.getElem_mem q6)) with hd | hd
         ·rw [hd.2, if_pos (by simpa using hA)]
         ·rw [hd.2]
       ·refine .inl ⟨(), fun s hs => ?_, fun m => ?_⟩
        ·rw [take_succ_get hi, List.mem_append, List.mem_singleton, hx] at hs
         rcases hs with hs | rfl
         ·exact hI s hs
         ·refine ⟨q1, q2, q3, q4, fun _ => ⟨hA, fun g hg s hs => ?_⟩⟩
          rw [List.getElem?_eq_getElem q6] at hg
          cases hg
          exact (hc.1 s hs).2
        ·rw [hgo, hbN]
         unfold Zk
         rw [if_neg Bool.false_ne_true, if_pos (by simpa using h16), hat, Option.bind_some]
         rcases caught1 c c.f_p.Funcs[x.A.toNat] x (i : Int) (fun (_ : Unit) => 
     if decide (x.A = 0) then
      some (false, (⟨(⟨c.f_p.Funcs, c.f_p.Consts, c.f_p.Shapes⟩ : TJProg), (⟨c.f_f.Params, c.f_f.Slots, c.f_f.Caught, c.f_f.Code⟩ : TJFunc), c.f_own, c.f_seen, c.f_todo, c.f_bad⟩ : Tchecker))
     else
      Zq (i : Int) c (Z4 c K m) K c.f_p.Funcs c.f_p.Consts c.f_p.Shapes c.f_f.Params c.f_f.Slots c.f_f.Caught c.f_f.Code c.f_own c.f_seen c.f_todo c.f_bad) (S.all _ (List.getElem_mem q6)) with hd | hd
         ·rw [hd.2, if_neg (by simpa using hA), hnext]
         ·exact absurd hc.1 hd.1
      ·refine .inr ⟨_, ⟨rfl, fun h => ?_⟩, fun m => ?_⟩
       ·refine hc.1 fun s hs => ?_
        have := (h x hmem).fn h16
        exact ⟨this.1, this.2 _ (List.getElem?_eq_getElem q6) s hs⟩
       ·rw [hgo, hbN]
        unfold Zk
        rw [if_neg Bool.false_ne_true, if_pos (by simpa using h16), hat, Option.bind_some]
        rcases caught1 c c.f_p.Funcs[x.A.toNat] x (i : Int) (fun (_ : Unit) => 
     if decide (x.A = 0) then
      some (false, (⟨(⟨c.f_p.Funcs, c.f_p.Consts, c.f_p.Shapes⟩ : TJProg), (⟨c.f_f.Params, c.f_f.Slots, c.f_f.Caught, c.f_f.Code⟩ : TJFunc), c.f_own, c.f_seen, c.f_todo, c.f_bad⟩ : Tchecker))
     else
      Zq (i : Int) c (Z4 c K m) K c.f_p.Funcs c.f_p.Consts c.f_p.Shapes c.f_f.Params c.f_f.Slots c.f_f.Caught c.f_f.Code c.f_own c.f_seen c.f_todo c.f_bad) (S.all _ (List.getElem_mem q6)) with hd | hd
        ·exact absurd hd.1 hc.1
        ·exact hd.2
     ·refine .inl ⟨(), fun s hs => ?_, fun m => ?_⟩
      ·rw [take_succ_get hi, List.mem_append, List.mem_singleton, hx] at hs
       rcases hs with hs | rfl
       ·exact hI s hs
       ·exact ⟨q1, q2, q3, q4, fun h => absurd h h16⟩
      ·rw [hgo, hbN]
       unfold Zk
       rw [if_neg Bool.false_ne_true, if_neg (by simpa using h16), hnext])
  rcases R with ⟨_, h1, h2⟩ | ⟨v, ⟨rfl, h1⟩, h2⟩
  ·rw [take_all] at h1
   exact ⟨true, h2, by simp only [true_iff]; exact ⟨hh, h1⟩⟩
  ·exact ⟨false, h2, by simp only [Bool.false_eq_true, false_iff]; exact fun h => h1 h.2⟩
 ·refine ⟨false, ?_, by simp only [Bool.false_eq_true, false_iff]; exact fun h => hh h.1⟩
  rw [if_pos]
  unfold HeadOK at hh
  by_cases h0 : c.f_f.Slots < 0
  ·simp [h0]
  ·rw [wi_id (by omega) (by omega)]
   simp only [Bool.or_eq_true, decide_eq_true_eq]
   omega
end Go.Proofs.YtolmbcngghkfiaaDoorBv
/- A function's ways, said once: what an instruction takes and gives, where it leads to, and what is to be known there. The program's step is that. No program is in sight. -/
namespace Go.Proofs.YtolmbcngghkfiaaDoorBv
open Go
set_option linter.unusedSimpArgs false
set_option linter.unusedVariables false
abbrev Sx := Int × List (Ar2 Int)
def fl (l : List (Ar2 Int)) : List Int := l.reverse.flatMap fun x => [x.a0, x.a1]
def stOf (s : Sx) : Tstate := ⟨s.1, fl s.2⟩
theorem fl_len (l : List (Ar2 Int)) : (fl l).length = 2 * l.length := by
 unfold fl
 induction l with
 | nil => rfl
 | cons x l ih => simp [List.flatMap_append] at ih ⊢; omega
theorem fl_cons (x : Ar2 Int) (l : List (Ar2 Int)) : fl (x :: l) = fl l ++ [x.a0, x.a1] := by simp [fl, List.flatMap_append]
theorem fl_inj {l m : List (Ar2 Int)} (h : fl l = fl m) : l = m := by
 have go : ∀ (a b : List (Ar2 Int)), (a.flatMap fun x => [x.a0, x.a1]) = (b.flatMap fun x => [x.a0, x.a1]) → a = b := by
  intro a
  induction a with
  | nil => intro b hb; cases b with
   | nil => rfl
   | cons y b => simp at hb
  | cons x a ih => intro b hb; cases b with
   | nil => simp at hb
   | cons y b =>
    simp only [List.flatMap_cons, List.cons_append, List.nil_append, List.cons.injEq] at hb
    obtain ⟨h0, h1, h2⟩ := hb
    rw [ih b h2]
    cases x; cases y; simp_all
 exact List.reverse_inj.1 (go _ _ h)
theorem stOf_inj {s t : Sx} (h : stOf s = stOf t) : s = t := by
 simp only [stOf, Tstate.mk.injEq] at h
 exact Prod.ext h.1 (fl_inj h.2)
def shpN (p : TJProg) (a : Int) : Int := ((p.Shapes[a.toNat]?).map fun x => (x.length : Int)).getD 0
def mv (p : TJProg) (i : TJIns) : Int × Int :=
 if i.Do = 1 ∨ i.Do = 2 ∨ i.Do = 16 then (0, 1) else if i.Do = 3 ∨ i.Do = 7 then (1, 1) else if i.Do = 5 ∨ i.Do = 6 ∨ i.Do = 10 ∨ i.Do = 18 ∨ i.Do = 19 then (1, 0)
 else if i.Do = 8 ∨ i.Do = 14 then (2, 1) else if i.Do = 11 ∨ i.Do = 23 then (1, 2) else if i.Do = 12 then (i.A, 1) else if i.Do = 13 then (shpN p i.A, 1)
 else if i.Do = 15 then (3, 1) else if i.Do = 17 then (i.A + 1, 1) else if i.Do = 24 then (2, 3) else (0, 0)
/-- where an instruction leads to, and with what -/
def nxt (p : TJProg) (own : Int) (i : TJIns) (k : Int) (s : Sx) : Option (List (Int × Sx)) :=
 if s.1 < (mv p i).1 then none
 else if i.Do = 9 then some [(i.A, (s.1 - (mv p i).1 + (mv p i).2, s.2))]
 else if i.Do = 10 then some [(i.A, (s.1 - (mv p i).1 + (mv p i).2, s.2)), (k + 1, (s.1 - (mv p i).1 + (mv p i).2, s.2))]
 else if i.Do = 24 then some [(i.A, s), (k + 1, (s.1 - (mv p i).1 + (mv p i).2, s.2))]
 else if i.Do = 18 ∨ i.Do = 25 then if s.2 ≠ [] ∨ ¬ (i.Do = 25 ↔ own = 0) then none else some []
 else if i.Do = 19 then some []
 else if i.Do = 20 then some [(i.A, (s.1 + 1, s.2)), (k + 1, (s.1 - (mv p i).1 + (mv p i).2, ⟨i.A, s.1⟩ :: s.2))]
 else if i.Do = 21 then match s.2 with
  | [] => none
  | _ :: t => some [(k + 1, (s.1 - (mv p i).1 + (mv p i).2, t))]
 else some [(k + 1, (s.1 - (mv p i).1 + (mv p i).2, s.2))]
section
variable {p : TJProg} {f : TJFunc} {i : TJIns}
theorem InsOK.b12 (I : InsOK p f i) (h : i.Do = 12) : i.A < 401 := by
 have := I.a2
 rw [h] at this
 simpa [boundN] using this
theorem InsOK.b17 (I : InsOK p f i) (h : i.Do = 17) : i.A < 401 := by
 have := I.a2
 rw [h] at this
 simpa [boundN] using this
theorem InsOK.b13 (I : InsOK p f i) (h : i.Do = 13) : i.A < (p.Shapes.length : Int) := by
 have := I.a2
 rw [h] at this
 simpa [boundN] using this
theorem InsOK.at13 (I : InsOK p f i) (S : Sm p f) (h : i.Do = 13) : ∃ x, at? p.Shapes i.A = some x ∧ shpN p i.A = (x.length : Int) ∧ x.length ≤ 140737488355328 := by
 have h1 := I.b13 h
 have h0 := I.a1
 have hl : i.A.toNat < p.Shapes.length := by omega
 refine ⟨p.Shapes[i.A.toNat], ?_, ?_, S.sl _ (List.getElem_mem hl)⟩
 ·rw [at_of h0]; exact List.getElem?_eq_getElem hl
 ·unfold shpN; rw [List.getElem?_eq_getElem hl]; rfl
theorem InsOK.cases (I : InsOK p f i) : i.Do = 1 ∨ i.Do = 2 ∨ i.Do = 3 ∨ i.Do = 4 ∨ i.Do = 5 ∨ i.Do = 6 ∨ i.Do = 7 ∨ i.Do = 8 ∨ i.Do = 9 ∨ i.Do = 10 ∨ i.Do = 11 ∨ i.Do = 12 ∨ i.Do = 13 ∨ i.Do = 14 ∨ i.Do = 15 ∨ i.Do = 16 ∨ i.Do = 17 ∨ i.Do = 18 ∨ i.Do = 19 ∨ i.Do = 20 ∨ i.Do = 21 ∨ i.Do = 22 ∨ i.Do = 23 ∨ i.Do = 24 ∨ i.Do = 25 := by
 have := I.d1
 have := I.d2
 omega
theorem needs_eq (I : InsOK p f i) (S : Sm p f) : Z15 i p = some (mv p i).1 := by
 unfold Z15 Ze Z14 mv
 have b17 := I.b17
 have a0 := I.a1
 rcases I.cases with h | h | h | h | h | h | h | h | h | h | h | h | h | h | h | h | h | h | h | h | h | h | h | h | h <;> simp [h]
 ·obtain ⟨x, h1, h2, h3⟩ := I.at13 S h
  rw [h1, h2]; rfl
 ·have := b17 h
  exact wi_id (by omega) (by omega)
theorem effect_eq (I : InsOK p f i) (S : Sm p f) : Z1k i.Do i.A p = some ((mv p i).2 - (mv p i).1) := by
 unfold Z1k Zs Zl mv
 have b12 := I.b12
 have b17 := I.b17
 have a0 := I.a1
 rcases I.cases with h | h | h | h | h | h | h | h | h | h | h | h | h | h | h | h | h | h | h | h | h | h | h | h | h <;> simp [h]
 ·have := b12 h
  exact wi_id (by omega) (by omega)
 ·obtain ⟨x, h1, h2, h3⟩ := I.at13 S h
  rw [h1, h2, Option.bind_some, wi_id (by omega) (by omega)]
 ·have := b17 h
  rw [wi_id (by omega) (by omega)]
  omega
theorem moved_eq (I : InsOK p f i) (S : Sm p f) : Z1u i p = some (mv p i) := by
 unfold Z1u Z18 Z1t Zy Z1r Z1q mv
 have b17 := I.b17
 have a0 := I.a1
 rcases I.cases with h | h | h | h | h | h | h | h | h | h | h | h | h | h | h | h | h | h | h | h | h | h | h | h | h <;> simp [h]
 ·obtain ⟨x, h1, h2, h3⟩ := I.at13 S h
  rw [h1, h2]; rfl
 ·have := b17 h
  exact wi_id (by omega) (by omega)
theorem mv_b (I : InsOK p f i) (S : Sm p f) : 0 ≤ (mv p i).1 ∧ (mv p i).1 ≤ 140737488355328 ∧ 0 ≤ (mv p i).2 ∧ (mv p i).2 ≤ 3 ∧ (mv p i).2 - (mv p i).1 ≤ 1 := by
 have b12 := I.b12
 have b17 := I.b17
 have a0 := I.a1
 unfold mv
 rcases I.cases with h | h | h | h | h | h | h | h | h | h | h | h | h | h | h | h | h | h | h | h | h | h | h | h | h <;> simp [h]
 ·have := b12 h
  omega
 ·obtain ⟨x, h1, h2, h3⟩ := I.at13 S h
  rw [h2]
  omega
 ·have := b17 h
  omega
end
/-! ### lists of numbers, alike or not -/
theorem equal_int (a b : List Int) (ha : a.length ≤ 140737488355328) : ∃ r, Z1e a b = some r ∧ (r = true ↔ a = b) := by
 unfold Z1e
 by_cases hl : a.length = b.length
 ·rw [if_neg (by simp only [Bool.not_eq_true', decide_eq_false_iff_not, Classical.not_not]; omega)]
  have R := rounds_lim (σ := Unit) (fun k _ v => Zg a b (fun _ => some true) k v) (fun _ => some true) a.length
   (fun i _ => a.take i = b.take i) (fun v => v = some false ∧ a ≠ b) () rfl
   (fun m s _ => by rw [Zg, if_neg (lt_neg _)])
   (fun s i hi hI => by
    have hj : i < b.length := by omega
    by_cases h : a[i] = b[i]
    ·refine .inl ⟨(), by rw [take_succ_get hi, take_succ_get hj, hI, h], fun m => ?_⟩
     rw [Zg, if_pos (lt_pos hi), at_some hi, Option.bind_some, at_some hj, Option.bind_some, if_neg (by simp [h]), wi_next hi (by omega)]
    ·refine .inr ⟨_, ⟨rfl, fun e => h (by subst e; rfl)⟩, fun m => ?_⟩
     rw [Zg, if_pos (lt_pos hi), at_some hi, Option.bind_some, at_some hj, Option.bind_some, if_pos (by simp [h])])
  rcases R with ⟨_, h1, h2⟩ | ⟨v, ⟨rfl, h1⟩, h2⟩
  ·refine ⟨true, h2, by simp only [true_iff]; rw [take_all, hl, take_all] at h1; exact h1⟩
  ·exact ⟨false, h2, by simp only [Bool.false_eq_true, false_iff]; exact h1⟩
 ·rw [if_pos (by simp only [Bool.not_eq_true', decide_eq_false_iff_not]; omega)]
  exact ⟨false, rfl, by simp only [Bool.false_eq_true, false_iff]; rintro rfl; exact hl rfl⟩
theorem equal_pairs (a b : List (Ar2 Int)) (ha : a.length ≤ 140737488355328) : ∃ r, Z19 a b = some r ∧ (r = true ↔ a = b) := by
 unfold Z19
 by_cases hl : a.length = b.length
 ·rw [if_neg (by simp only [Bool.not_eq_true', decide_eq_false_iff_not, Classical.not_not]; omega)]
  have R := rounds_lim (σ := Unit) (fun k _ v => Zh a b (fun _ => some true) k v) (fun _ => some true) a.length
   (fun i _ => a.take i = b.take i) (fun v => v = some false ∧ a ≠ b) () rfl
   (fun m s _ => by rw [Zh, if_neg (lt_neg _)])
   (fun s i hi hI => by
    have hj : i < b.length := by omega
    by_cases h : a[i] = b[i]
    ·refine .inl ⟨(), by rw [take_succ_get hi, take_succ_get hj, hI, h], fun m => ?_⟩
     rw [Zh, if_pos (lt_pos hi), at_some hi, Option.bind_some, at_some hj, Option.bind_some, if_neg (by simp [h]), wi_next hi (by omega)]
    ·refine .inr ⟨_, ⟨rfl, fun e => h (by subst e; rfl)⟩, fun m => ?_⟩
     have hc : ¬ ((a[i]).a0 = (b[i]).a0 ∧ (a[i]).a1 = (b[i]).a1) := by
      intro hc
      apply h
      generalize a[i] = x at hc
      generalize b[i] = y at hc
      cases x; cases y; simp_all
     rw [Zh, if_pos (lt_pos hi), at_some hi, Option.bind_some, at_some hj, Option.bind_some, if_pos (by simp only [Bool.and_true, Bool.not_eq_true', Bool.and_eq_false_iff, decide_eq_false_iff_not]; exact Classical.not_and_iff_not_or_not.1 hc)])
  rcases R with ⟨_, h1, h2⟩ | ⟨v, ⟨rfl, h1⟩, h2⟩
  ·refine ⟨true, h2, by simp only [true_iff]; rw [take_all, hl, take_all] at h1; exact h1⟩
  ·exact ⟨false, h2, by simp only [Bool.false_eq_true, false_iff]; exact h1⟩
 ·rw [if_pos (by simp only [Bool.not_eq_true', decide_eq_false_iff_not]; omega)]
  exact ⟨false, rfl, by simp only [Bool.false_eq_true, false_iff]; rintro rfl; exact hl rfl⟩
theorem same_eq (s t : Tstate) (hs : s.f_tries.length ≤ 140737488355328) : ∃ r, Z1g s t = some r ∧ (r = true ↔ s = t) := by
 unfold Z1g Z1f
 by_cases h : s.f_height = t.f_height
 ·rw [if_pos (by simpa using h)]
  obtain ⟨r, h1, h2⟩ := equal_int s.f_tries t.f_tries hs
  refine ⟨r, by rw [h1]; rfl, h2.trans ?_⟩
  cases s; cases t; simp_all
 ·rw [if_neg (by simpa using h)]
  exact ⟨false, rfl, by simp only [Bool.false_eq_true, false_iff]; rintro rfl; exact h rfl⟩
/-! ### maps -/
theorem mget_same {κ ν : Type} [DecidableEq κ] (k : κ) (v : ν) : ∀ l : List (κ × ν), mget (mset l k v) k = some v
 | [] => by simp [mset, mget]
 | p :: r => by
  by_cases h : k = p.1
  ·simp [mset, mget, h]
  ·simp [mset, mget, h, mget_same k v r]
theorem mget_other {κ ν : Type} [DecidableEq κ] {k k' : κ} (v : ν) (hk : k' ≠ k) : ∀ l : List (κ × ν), mget (mset l k v) k' = mget l k'
 | [] => by simp [mset, mget, hk]
 | p :: r => by
  by_cases h : k = p.1
  ·subst h
   simp [mset, mget, hk]
  ·simp only [mset, if_neg h, mget, mget_other v hk r]
/-! ### the checker's reach -/
/-- what comes of reaching a place -/
structure Out (c : Tchecker) (t : Int) (s : Sx) (c' : Tchecker) : Prop where
 p : c'.f_p = c.f_p
 f : c'.f_f = c.f_f
 own : c'.f_own = c.f_own
 todo : c'.f_todo.length ≤ c.f_todo.length + 1
 seen : ∀ a u, mget c'.f_seen a = some u → mget c.f_seen a = some u ∨ u = stOf s
 out : (c'.f_bad = true ∧ (c.f_bad = true ∨ ¬ (0 ≤ t ∧ t < (c.f_f.Code.length : Int)) ∨ s.1 < 0 ∨ ∃ u, mget c.f_seen t = some u ∧ u ≠ stOf s)) ∨
  (c.f_bad = false ∧ c' = c ∧ 0 ≤ t ∧ t < (c.f_f.Code.length : Int) ∧ mget c.f_seen t = some (stOf s)) ∨
  (c.f_bad = false ∧ 0 ≤ t ∧ t < (c.f_f.Code.length : Int) ∧ mget c.f_seen t = none ∧ c' = { c with f_seen := mset c.f_seen t (stOf s), f_todo := c.f_todo ++ [t] })
theorem reach_out (c : Tchecker) (t : Int) (s : Sx) (hs : s.2.length ≤ 20000) (ht : c.f_todo.length ≤ 20000) : ∃ c', Z5 c t (stOf s) = some c' ∧ Out c t s c' := by
 unfold Z5 Z1h
 by_cases h0 : t < 0 ∨ (c.f_f.Code.length : Int) ≤ t ∨ s.1 < 0
 ·have hh : (stOf s).f_height = s.1 := rfl
  rw [if_pos (by simp only [Bool.or_eq_true, decide_eq_true_eq, hh]; omega)]
  refine ⟨_, rfl, ⟨rfl, rfl, rfl, by simp, fun a u h => .inl h, .inl ⟨rfl, ?_⟩⟩⟩
  rcases h0 with h0 | h0 | h0
  ·exact .inr (.inl fun h => by omega)
  ·exact .inr (.inl fun h => by omega)
  ·exact .inr (.inr (.inl h0))
 ·have hh : (stOf s).f_height = s.1 := rfl
  rw [if_neg (by simp only [Bool.or_eq_true, decide_eq_true_eq, hh]; omega)]
  cases hg : mget c.f_seen t with
  | some u =>
   rw [if_pos (show (some u).isSome = true from rfl)]
   by_cases hb : c.f_bad = true
   ·rw [if_pos hb]
    exact ⟨_, rfl, ⟨rfl, rfl, rfl, by simp, fun a u h => .inl h, .inl ⟨rfl, .inl hb⟩⟩⟩
   ·rw [if_neg hb]
    obtain ⟨r, h1, h2⟩ := same_eq (stOf s) u (by show (fl s.2).length ≤ _; rw [fl_len]; omega)
    simp only [Option.getD_some, h1, Option.bind_some]
    refine ⟨_, rfl, ⟨rfl, rfl, rfl, by simp, fun a u h => .inl h, ?_⟩⟩
    cases r with
    | true =>
     have e := h2.1 rfl
     refine .inr (.inl ⟨by simpa using hb, ?_, by omega, by omega, e ▸ hg⟩)
     cases c; simp_all
    | false => exact .inl ⟨rfl, .inr (.inr (.inr ⟨u, hg, fun e => by have := h2.2 e.symm; simp at this⟩))⟩
  | none =>
   rw [if_neg (by simp), letIn_eq, appq (by simp; omega), Option.bind_some]
   refine ⟨_, rfl, ⟨rfl, rfl, rfl, by simp, fun a u h => ?_, ?_⟩⟩
   ·by_cases ha : a = t
    ·subst ha
     rw [mget_same] at h
     cases h
     exact .inr rfl
    ·rw [mget_other _ ha] at h
     exact .inl h
   ·by_cases hb : c.f_bad = true
    ·exact .inl ⟨hb, .inl hb⟩
    ·exact .inr (.inr ⟨by simpa using hb, by omega, by omega, hg, rfl⟩)
/-- reaching some places, one after the other -/
inductive Outs : Tchecker → List (Int × Sx) → Tchecker → Prop
 | nil {c : Tchecker} : Outs c [] c
 | cons {c c' c'' : Tchecker} {x : Int × Sx} {l : List (Int × Sx)} (h : Out c x.1 x.2 c') (r : Outs c' l c'') : Outs c (x :: l) c''
theorem concat_eq (a : List (Ar2 Int)) (x y : Int) (ha : a.length ≤ 20000) : Z1l [fl a, [x, y]] = some (fl (⟨x, y⟩ :: a)) := by
 have hl := fl_len a
 unfold Z1l
 refine lim_add 4 fun k => ?_
 rw [show k + 4 = (k + 3) + 1 from rfl, Zm, if_pos (by simp), show at? [fl a, [x, y]] 0 = some (fl a) from rfl, Option.bind_some, if_neg (by rw [wi_id (by omega) (by omega)]; simp only [decide_eq_true_eq]; omega)]
 rw [show k + 3 = (k + 2) + 1 from rfl, Zm, wi_id (n := 0 + 1) (by omega) (by omega), wi_id (by omega) (by omega), if_pos (by simp), show at? [fl a, [x, y]] (0 + 1) = some [x, y] from rfl, Option.bind_some]
 have e2 : (([x, y] : List Int).length : Int) = 2 := rfl
 rw [e2, if_neg (by rw [wi_id (by omega) (by omega)]; simp only [decide_eq_true_eq]; omega), wi_id (by omega) (by omega), wi_id (n := 0 + 1 + 1) (by omega) (by omega)]
 rw [show k + 2 = (k + 1) + 1 from rfl, Zm, if_neg (by simp)]
 rw [show Z2h (0 + ((fl a).length : Int) + 2) = some [] from if_pos ⟨by omega, by omega, by omega⟩, Option.bind_some]
 refine lim_add 4 fun k => ?_
 rw [show k + 4 = (k + 3) + 1 from rfl, Zn, if_pos (by simp), show at? [fl a, [x, y]] 0 = some (fl a) from rfl, Option.bind_some, appq (by simp; omega), Option.bind_some]
 rw [show k + 3 = (k + 2) + 1 from rfl, Zn, wi_id (n := 0 + 1) (by omega) (by omega), if_pos (by simp), show at? [fl a, [x, y]] (0 + 1) = some [x, y] from rfl, Option.bind_some, appq (by simp; omega), Option.bind_some, wi_id (n := 0 + 1 + 1) (by omega) (by omega)]
 rw [show k + 2 = (k + 1) + 1 from rfl, Zn, if_neg (by simp), fl_cons]
 rfl
theorem step_eq (c : Tchecker) (k : Nat) (i : TJIns) (s : Sx) (S : Sm c.f_p c.f_f) (hi : c.f_f.Code[k]? = some i) (I : InsOK c.f_p c.f_f i) (hg : mget c.f_seen (k : Int) = some (stOf s)) (h0 : 0 ≤ s.1) (h1 : s.1 ≤ 10000) (h2 : s.2.length ≤ 10000) (ht : c.f_todo.length ≤ 10000) :
  (nxt c.f_p c.f_own i k s = none ∧ Zv c k = some { c with f_bad := true }) ∨ ∃ l c', nxt c.f_p c.f_own i k s = some l ∧ Zv c k = some c' ∧ Outs c l c' := by
 have hk : k < c.f_f.Code.length := (List.getElem?_eq_some_iff.1 hi).1
 have hc := S.code
 have m := mv_b I S
 have hfl := fl_len s.2
 have e1 : (stOf s).f_height = s.1 := rfl
 have e2 : (stOf s).f_tries = fl s.2 := rfl
 unfold Zv Z27
 rw [at_nat, hi, Option.bind_some]
 simp only [hg, Option.getD_some, e1, e2]
 rw [show Z15 (⟨i.Do, i.A⟩ : TJIns) c.f_p = some (mv c.f_p i).1 from needs_eq I S, Option.bind_some]
 simp only [letIn_eq]
 by_cases hn : s.1 < (mv c.f_p i).1
 ·refine .inl ⟨by unfold nxt; rw [if_pos hn], ?_⟩
  rw [if_pos (by simpa using hn)]
 ·rw [if_neg (by simpa using hn), effect_eq I S, Option.bind_some, wi_id (by omega) (by omega)]
  have hh : s.1 + ((mv c.f_p i).2 - (mv c.f_p i).1) = s.1 - (mv c.f_p i).1 + (mv c.f_p i).2 := by omega
  rw [hh]
  have hnx : nxt c.f_p c.f_own i k s = nxt c.f_p c.f_own i k s := rfl
  conv at hnx => rhs; unfold nxt
  rw [if_neg hn] at hnx
  generalize s.1 - (mv c.f_p i).1 + (mv c.f_p i).2 = q at *
  have hwk : wi ((k : Int) + 1) = (k : Int) + 1 := wi_id (by omega) (by omega)
  have hce : ({ f_p := c.f_p, f_f := c.f_f, f_own := c.f_own, f_seen := c.f_seen, f_todo := c.f_todo, f_bad := c.f_bad } : Tchecker) = c := rfl
  have one : ∀ (t : Int) (x : Sx), x.2.length ≤ 20000 → nxt c.f_p c.f_own i k s = some [(t, x)] → ∃ l c', nxt c.f_p c.f_own i k s = some l ∧ ((Z5 c t (stOf x)).bind fun r => some r) = some c' ∧ Outs c l c' := by
   intro t x hx hq
   obtain ⟨c', a, b⟩ := reach_out c t x hx (by omega)
   exact ⟨_, c', hq, by rw [a]; rfl, .cons b .nil⟩
  have two : ∀ (t : Int) (x : Sx) (t' : Int) (x' : Sx), x.2.length ≤ 20000 → x'.2.length ≤ 20000 → nxt c.f_p c.f_own i k s = some [(t, x), (t', x')] →
    ∃ l c', nxt c.f_p c.f_own i k s = some l ∧ ((Z5 c t (stOf x)).bind fun r => (Z5 r t' (stOf x')).bind fun r' => some r') = some c' ∧ Outs c l c' := by
   intro t x t' x' hx hx' hq
   obtain ⟨c', a, b⟩ := reach_out c t x hx (by omega)
   obtain ⟨c'', a', b'⟩ := reach_out c' t' x' hx' (by have := b.todo; omega)
   exact ⟨_, c'', hq, by rw [a, Option.bind_some, a']; rfl, .cons b (.cons b' .nil)⟩
  unfold Z26
  simp only [hg, Option.getD_some, e2]
  rw [hwk, hce]
  by_cases h9 : i.Do = 9
  ·rw [if_pos (by simpa using h9)]
   rw [if_pos h9] at hnx
   exact .inr (one _ (q, s.2) (by simp only; omega) hnx)
  rw [if_neg (by simpa using h9)]
  rw [if_neg h9] at hnx
  by_cases h10 : i.Do = 10
  ·rw [if_pos (by simpa using h10)]
   rw [if_pos h10] at hnx
   exact .inr (two _ (q, s.2) _ (q, s.2) (by simp only; omega) (by simp only; omega) hnx)
  rw [if_neg (by simpa using h10)]
  rw [if_neg h10] at hnx
  by_cases h24 : i.Do = 24
  ·rw [if_pos (by simpa using h24)]
   rw [if_pos h24] at hnx
   exact .inr (two _ s _ (q, s.2) (by omega) (by simp only; omega) hnx)
  rw [if_neg (by simpa using h24)]
  rw [if_neg h24] at hnx
  unfold Z1m
  simp only [hg, Option.getD_some, e1, e2, hwk, hce, letIn_eq]
  by_cases h18 : i.Do = 18 ∨ i.Do = 25
  ·have hd : (if decide (i.Do = 18) = true then decide (i.Do = 18) else decide (i.Do = 25)) = true := by
    rcases h18 with h | h <;> simp [h]
   rw [if_pos h18] at hnx
   have hr : ∀ (x : Option Tchecker), (if decide (i.Do = 18) = true then if decide (i.Do = 18) = true then some ({ f_p := c.f_p, f_f := c.f_f, f_own := c.f_own, f_seen := c.f_seen, f_todo := c.f_todo, f_bad := (c.f_bad || decide (0 < ((fl s.2).length : Int)) || !(decide (i.Do = 25) == decide (c.f_own = 0) && true)) } : Tchecker) else x else if decide (i.Do = 25) = true then some ({ f_p := c.f_p, f_f := c.f_f, f_own := c.f_own, f_seen := c.f_seen, f_todo := c.f_todo, f_bad := (c.f_bad || decide (0 < ((fl s.2).length : Int)) || !(decide (i.Do = 25) == decide (c.f_own = 0) && true)) } : Tchecker) else x) = some { c with f_bad := (c.f_bad || decide (s.2 ≠ [] ∨ ¬ (i.Do = 25 ↔ c.f_own = 0))) } := by
    intro x
    have e : (c.f_bad || decide (0 < ((fl s.2).length : Int)) || !(decide (i.Do = 25) == decide (c.f_own = 0) && true)) = (c.f_bad || decide (s.2 ≠ [] ∨ ¬ (i.Do = 25 ↔ c.f_own = 0))) := by
     rw [Bool.or_assoc]
     congr 1
     have hne : (0 < ((fl s.2).length : Int)) ↔ s.2 ≠ [] := by
      rw [← List.length_pos_iff]
      omega
     rw [(decide_eq_decide.2 hne : decide (0 < ((fl s.2).length : Int)) = decide (s.2 ≠ []))]
     by_cases z1 : s.2 = [] <;> by_cases z2 : i.Do = 25 <;> by_cases z3 : c.f_own = 0 <;> simp [z1, z2, z3]
    rw [e]
    rcases h18 with h | h <;> simp [h]
   rw [hr]
   by_cases hz : s.2 ≠ [] ∨ ¬ (i.Do = 25 ↔ c.f_own = 0)
   ·rw [if_pos hz] at hnx
    refine .inl ⟨hnx, ?_⟩
    rw [decide_eq_true hz, Bool.or_true]
   ·rw [if_neg hz] at hnx
    refine .inr ⟨[], c, hnx, ?_, .nil⟩
    rw [decide_eq_false hz, Bool.or_false]
  have n18 : ¬ decide (i.Do = 18) = true := by simp only [decide_eq_true_eq]; exact fun h => h18 (.inl h)
  have n25 : ¬ decide (i.Do = 25) = true := by simp only [decide_eq_true_eq]; exact fun h => h18 (.inr h)
  rw [if_neg n18, if_neg n25]
  rw [if_neg h18] at hnx
  by_cases h19 : i.Do = 19
  ·rw [if_pos (by simpa using h19)]
   rw [if_pos h19] at hnx
   exact .inr ⟨[], c, hnx, rfl, .nil⟩
  rw [if_neg (by simpa using h19)]
  rw [if_neg h19] at hnx
  by_cases h20 : i.Do = 20
  ·rw [if_pos (by simpa using h20), wi_id (by omega) (by omega)]
   rw [if_pos h20] at hnx
   rw [concat_eq _ _ _ (by omega)]
   simp only [Option.bind_some]
   exact .inr (two _ (s.1 + 1, s.2) _ (q, ⟨i.A, s.1⟩ :: s.2) (by simp only; omega) (by simp; omega) hnx)
  rw [if_neg (by simpa using h20)]
  rw [if_neg h20] at hnx
  by_cases h21 : i.Do = 21
  ·rw [if_pos (by simpa using h21)]
   rw [if_pos h21] at hnx
   cases hs : s.2 with
   | nil =>
    rw [hs] at hnx
    refine .inl ⟨hnx, ?_⟩
    rw [if_pos (by simp [fl])]
   | cons y r =>
    rw [hs] at hnx
    have hf := fl_len r
    have hf' : (fl (y :: r)).length = 2 * r.length + 2 := by rw [fl_len, List.length_cons]; omega
    have hlen : r.length + 1 ≤ 10000 := by rw [hs] at h2; simpa using h2
    rw [if_neg (by simp only [decide_eq_true_eq]; omega)]
    rw [show wi (((fl (y :: r)).length : Int) - 2) = ((fl r).length : Int) by rw [wi_id (by omega) (by omega)]; omega]
    rw [show sub? (fl (y :: r)) 0 ((fl r).length : Int) = some (fl r) by rw [sub_take (by omega), fl_cons, List.take_left], Option.bind_some]
    exact .inr (one _ (q, r) (by simp only; omega) hnx)
  rw [if_neg (by simpa using h21)]
  rw [if_neg h21] at hnx
  exact .inr (one _ (q, s.2) (by simp only; omega) hnx)
end Go.Proofs.YtolmbcngghkfiaaDoorBv
/- A function is right, by the program: just where each place that is reached may be told what is known there, once and for all. No program is in sight. -/
namespace Go.Proofs.YtolmbcngghkfiaaDoorBv
open Go
set_option linter.unusedSimpArgs false
set_option linter.unusedVariables false
/-- what is known at each place: it agrees with all ways -/
def Good (p : TJProg) (f : TJFunc) (own : Int) (L : Int → Option Sx) : Prop :=
 L 0 = some (0, []) ∧ ∀ t s, L t = some s → 0 ≤ t ∧ t < (f.Code.length : Int) ∧ ∃ i l, f.Code[t.toNat]? = some i ∧ nxt p own i t s = some l ∧ ∀ x, x ∈ l → L x.1 = some x.2
theorem nxt_b {p : TJProg} {f : TJFunc} {i : TJIns} {own k : Int} {s : Sx} {l : List (Int × Sx)} (I : InsOK p f i) (S : Sm p f) (h0 : 0 ≤ s.1) (h : nxt p own i k s = some l) : ∀ x, x ∈ l → 0 ≤ x.2.1 ∧ x.2.1 ≤ s.1 + 1 ∧ x.2.2.length ≤ s.2.length + 1 := by
 have m := mv_b I S
 unfold nxt at h
 split at h
 ·cases h
 ·rename_i hn
  have q0 : 0 ≤ s.1 - (mv p i).1 + (mv p i).2 := by omega
  have q1 : s.1 - (mv p i).1 + (mv p i).2 ≤ s.1 + 1 := by omega
  generalize s.1 - (mv p i).1 + (mv p i).2 = q at *
  split at h
  ·cases h; intro x hx; simp at hx; subst hx; exact ⟨q0, q1, by simp⟩
  split at h
  ·cases h; intro x hx; simp at hx; rcases hx with rfl | rfl <;> exact ⟨q0, q1, by simp⟩
  split at h
  ·cases h; intro x hx; simp at hx; rcases hx with rfl | rfl
   ·exact ⟨h0, by simp only; omega, by simp⟩
   ·exact ⟨q0, q1, by simp⟩
  split at h
  ·split at h
   ·cases h
   ·cases h; intro x hx; simp at hx
  split at h
  ·cases h; intro x hx; simp at hx
  split at h
  ·cases h; intro x hx; simp at hx; rcases hx with rfl | rfl
   ·exact ⟨by simp only; omega, by simp, by simp⟩
   ·exact ⟨q0, q1, by simp⟩
  split at h
  ·split at h
   ·cases h
   ·rename_i e; cases h; intro x hx; simp at hx; subst hx; exact ⟨q0, q1, by rw [e]; simp; omega⟩
  ·cases h; intro x hx; simp at hx; subst hx; exact ⟨q0, q1, by simp⟩
theorem countP_lt {α : Type} {P Q : α → Bool} : ∀ {l : List α} {x : α}, (∀ y, y ∈ l → Q y = true → P y = true) → x ∈ l → P x = true → Q x = false → l.countP Q + 1 ≤ l.countP P
 | [], x, _, hx, _, _ => by simp at hx
 | y :: l, x, h, hx, hp, hq => by
  have hle : l.countP Q ≤ l.countP P := List.countP_mono_left fun z hz => h z (List.mem_cons_of_mem _ hz)
  rw [List.countP_cons, List.countP_cons]
  rcases List.mem_cons.1 hx with rfl | hx
  ·rw [hp, hq]; simp; omega
  ·have := countP_lt (fun z hz => h z (List.mem_cons_of_mem _ hz)) hx hp hq
   have h1 := h y List.mem_cons_self
   by_cases hy : Q y = true
   ·rw [hy, h1 hy]; simp; omega
   ·simp only [Bool.not_eq_true] at hy
    rw [hy]; simp only [Bool.false_eq_true, if_false]; omega
def fr (n : Nat) (m : List (Int × Tstate)) : Nat := (List.range n).countP fun (k : Nat) => (mget m (k : Int)).isNone
theorem fr_lt {n : Nat} {m : List (Int × Tstate)} {t : Int} (v : Tstate) (h0 : 0 ≤ t) (h1 : t < (n : Int)) (h : mget m t = none) : fr n (mset m t v) + 1 ≤ fr n m := by
 refine countP_lt (x := t.toNat) (fun y _ hy => ?_) (List.mem_range.2 (by omega)) ?_ ?_
 ·by_cases e : (y : Int) = t
  ·rw [e, mget_same] at hy; simp at hy
  ·rwa [mget_other _ e] at hy
 ·rw [show ((t.toNat : Nat) : Int) = t by omega, h]; rfl
 ·rw [show ((t.toNat : Nat) : Int) = t by omega, mget_same]; rfl
theorem fr_le (n : Nat) (m : List (Int × Tstate)) : fr n m ≤ n := by
 have := List.countP_le_length (p := fun k : Nat => (mget m (k : Int)).isNone) (l := List.range n)
 rw [List.length_range] at this
 exact this
section
variable {p : TJProg} {f : TJFunc} {own : Int}
structure Inv (p : TJProg) (f : TJFunc) (own : Int) (c : Tchecker) : Prop where
 hp : c.f_p = p
 hf : c.f_f = f
 ho : c.f_own = own
 seen : ∀ t u, mget c.f_seen t = some u → 0 ≤ t ∧ t < (f.Code.length : Int) ∧ ∃ s : Sx, u = stOf s ∧ 0 ≤ s.1 ∧ s.1 + (fr f.Code.length c.f_seen : Int) ≤ (f.Code.length : Int) ∧ s.2.length + fr f.Code.length c.f_seen ≤ f.Code.length
 todo : ∀ t, t ∈ c.f_todo → ∃ u, mget c.f_seen t = some u
 len : c.f_todo.length + fr f.Code.length c.f_seen ≤ f.Code.length
structure Ext (n : Nat) (c c' : Tchecker) : Prop where
 old : ∀ t u, mget c.f_seen t = some u → mget c'.f_seen t = some u
 td : ∀ t, t ∈ c.f_todo → t ∈ c'.f_todo
 new : ∀ t u, mget c'.f_seen t = some u → mget c.f_seen t = some u ∨ t ∈ c'.f_todo
 fr : fr n c'.f_seen ≤ fr n c.f_seen
 ms : 2 * Go.Proofs.YtolmbcngghkfiaaDoorBv.fr n c'.f_seen + c'.f_todo.length ≤ 2 * Go.Proofs.YtolmbcngghkfiaaDoorBv.fr n c.f_seen + c.f_todo.length
def Fit (L : Int → Option Sx) (c : Tchecker) : Prop := c.f_bad = false ∧ ∀ t s, mget c.f_seen t = some (stOf s) → L t = some s
theorem Out.bad {c c' : Tchecker} {t : Int} {s : Sx} (O : Out c t s c') (h : c'.f_bad = false) : c.f_bad = false := by
 rcases O.out with ⟨h1, _⟩ | ⟨h1, _⟩ | ⟨h1, _⟩
 ·rw [h] at h1; cases h1
 ·exact h1
 ·exact h1
theorem Outs.bad {c c' : Tchecker} {l : List (Int × Sx)} (O : Outs c l c') (h : c'.f_bad = false) : c.f_bad = false := by
 induction O with
 | nil => exact h
 | cons o r ih => exact o.bad (ih h)
theorem out_inv {c c' : Tchecker} {t : Int} {s : Sx} (H : Inv p f own c) (O : Out c t s c') (h0 : 0 ≤ s.1) (h1 : s.1 + (fr f.Code.length c.f_seen : Int) ≤ (f.Code.length : Int) + 1) (h2 : s.2.length + fr f.Code.length c.f_seen ≤ f.Code.length + 1) (hb : c'.f_bad = false) :
  Inv p f own c' ∧ Ext f.Code.length c c' ∧ mget c'.f_seen t = some (stOf s) := by
 have hf := H.hf
 rcases O.out with ⟨q, _⟩ | ⟨_, rfl, _, _, q⟩ | ⟨_, q0, q1, q2, rfl⟩
 ·rw [hb] at q; cases q
 ·exact ⟨H, ⟨fun _ _ h => h, fun _ h => h, fun _ _ h => .inl h, Nat.le_refl _, Nat.le_refl _⟩, q⟩
 ·rw [hf] at q1
  have hl := fr_lt (stOf s) q0 q1 q2
  refine ⟨⟨H.hp, H.hf, H.ho, fun a u ha => ?_, fun a ha => ?_, ?_⟩, ⟨fun a u ha => ?_, fun a ha => List.mem_append_left _ ha, fun a u ha => ?_, ?_, ?_⟩, mget_same _ _ _⟩
  ·simp only at ha ⊢
   by_cases e : a = t
   ·subst e
    rw [mget_same] at ha
    cases ha
    exact ⟨q0, q1, s, rfl, h0, by omega, by omega⟩
   ·rw [mget_other _ e] at ha
    obtain ⟨x1, x2, s', x3, x4, x5, x6⟩ := H.seen a u ha
    exact ⟨x1, x2, s', x3, x4, by omega, by omega⟩
  ·simp only at ha ⊢
   rcases List.mem_append.1 ha with ha | ha
   ·obtain ⟨u, hu⟩ := H.todo a ha
    by_cases e : a = t
    ·exact ⟨_, by rw [e]; exact mget_same _ _ _⟩
    ·exact ⟨u, by rw [mget_other _ e]; exact hu⟩
   ·simp at ha
    exact ⟨_, by rw [ha]; exact mget_same _ _ _⟩
  ·have := H.len
   simp only [List.length_append, List.length_singleton]
   omega
  ·simp only
   by_cases e : a = t
   ·subst e; rw [q2] at ha; cases ha
   ·rw [mget_other _ e]; exact ha
  ·simp only at ha ⊢
   by_cases e : a = t
   ·exact .inr (by simp [e])
   ·rw [mget_other _ e] at ha; exact .inl ha
  ·simp only; omega
  ·simp only [List.length_append, List.length_singleton]; omega
theorem outs_inv {c c' : Tchecker} {l : List (Int × Sx)} (O : Outs c l c') : Inv p f own c → (∀ x, x ∈ l → 0 ≤ x.2.1 ∧ x.2.1 + (fr f.Code.length c.f_seen : Int) ≤ (f.Code.length : Int) + 1 ∧ x.2.2.length + fr f.Code.length c.f_seen ≤ f.Code.length + 1) → c'.f_bad = false →
  Inv p f own c' ∧ Ext f.Code.length c c' ∧ ∀ x, x ∈ l → mget c'.f_seen x.1 = some (stOf x.2) := by
 induction O with
 | nil => exact fun H _ _ => ⟨H, ⟨fun _ _ h => h, fun _ h => h, fun _ _ h => .inl h, Nat.le_refl _, Nat.le_refl _⟩, fun x hx => by simp at hx⟩
 | cons o r ih =>
  intro H hx hb
  have h1 := hx _ List.mem_cons_self
  obtain ⟨a1, a2, a3⟩ := out_inv H o h1.1 h1.2.1 h1.2.2 (r.bad hb)
  obtain ⟨b1, b2, b3⟩ := ih a1 (fun y hy => by
   have := hx y (List.mem_cons_of_mem _ hy)
   have := a2.fr
   omega) hb
  refine ⟨b1, ⟨fun t u h => b2.old t u (a2.old t u h), fun t h => b2.td t (a2.td t h), fun t u h => ?_, Nat.le_trans b2.fr a2.fr, Nat.le_trans b2.ms a2.ms⟩, fun y hy => ?_⟩
  ·rcases b2.new t u h with h | h
   ·rcases a2.new t u h with h | h
    ·exact .inl h
    ·exact .inr (b2.td t h)
   ·exact .inr h
  ·rcases List.mem_cons.1 hy with rfl | hy
   ·exact b2.old _ _ a3
   ·exact b3 y hy
theorem outs_fit {L : Int → Option Sx} (G : Good p f own L) {c c' : Tchecker} {l : List (Int × Sx)} (O : Outs c l c') : Inv p f own c → (∀ x, x ∈ l → 0 ≤ x.2.1 ∧ x.2.1 + (fr f.Code.length c.f_seen : Int) ≤ (f.Code.length : Int) + 1 ∧ x.2.2.length + fr f.Code.length c.f_seen ≤ f.Code.length + 1) → (∀ x, x ∈ l → L x.1 = some x.2) → Fit L c → Fit L c' := by
 induction O with
 | nil => exact fun _ _ _ F => F
 | cons o r ih =>
  rename_i c0 c1 c2 x l'
  intro H hx hL F
  have h1 := hx _ List.mem_cons_self
  have hl := hL _ List.mem_cons_self
  have hg := (G.2 _ _ hl)
  have F1 : Fit L c1 := by
   rcases o.out with ⟨q, q'⟩ | ⟨_, rfl, _, _, q⟩ | ⟨qb, q0, q1, q2, rfl⟩
   ·exfalso
    rcases q' with q' | q' | q' | ⟨u, q1, q2⟩
    ·rw [F.1] at q'; cases q'
    ·rw [H.hf] at q'; exact q' ⟨hg.1, hg.2.1⟩
    ·omega
    ·obtain ⟨_, _, s', e, _⟩ := H.seen _ _ q1
     rw [e] at q1
     have := F.2 _ _ q1
     rw [hl] at this
     cases this
     exact q2 e
   ·exact F
   ·refine ⟨qb, fun t s ht => ?_⟩
    simp only at ht
    by_cases e : t = x.1
    ·rw [e, mget_same] at ht
     rw [e, hl, stOf_inj (Option.some.inj ht)]
    ·rw [mget_other _ e] at ht
     exact F.2 t s ht
  obtain ⟨a1, a2, a3⟩ := out_inv H o h1.1 h1.2.1 h1.2.2 F1.1
  exact ih a1 (fun y hy => by
   have := hx y (List.mem_cons_of_mem _ hy)
   have := a2.fr
   omega) (fun y hy => hL y (List.mem_cons_of_mem _ hy)) F1
/-- all that has been seen and is not to be done is as it should be -/
def Clo (p : TJProg) (f : TJFunc) (own : Int) (c : Tchecker) : Prop := ∀ t s, mget c.f_seen t = some (stOf s) → t ∈ c.f_todo ∨ ∃ i l, f.Code[t.toNat]? = some i ∧ nxt p own i t s = some l ∧ ∀ x, x ∈ l → mget c.f_seen x.1 = some (stOf x.2)
theorem good_of (c : Tchecker) (H : Inv p f own c) (hz : mget c.f_seen 0 = some (stOf (0, []))) (C : Clo p f own c) (ht : c.f_todo = []) : ∃ L, Good p f own L := by
 classical
 let L : Int → Option Sx := fun t => if h : ∃ s, mget c.f_seen t = some (stOf s) then some h.choose else none
 have hL : ∀ t s, mget c.f_seen t = some (stOf s) → L t = some s := by
  intro t s h
  have hx : ∃ s, mget c.f_seen t = some (stOf s) := ⟨s, h⟩
  show (if h : _ then _ else _) = _
  rw [dif_pos hx]
  exact congrArg some (stOf_inj (Option.some.inj (hx.choose_spec.symm.trans h)))
 have hL' : ∀ t s, L t = some s → mget c.f_seen t = some (stOf s) := by
  intro t s h
  by_cases hx : ∃ s, mget c.f_seen t = some (stOf s)
  ·obtain ⟨s', hs⟩ := hx
   rw [hL t s' hs] at h
   cases h
   exact hs
  ·have : L t = none := dif_neg hx
   rw [this] at h
   cases h
 refine ⟨L, hL _ _ hz, fun t s h => ?_⟩
 have h' := hL' t s h
 obtain ⟨a, b, _⟩ := H.seen _ _ h'
 refine ⟨a, b, ?_⟩
 rcases C t s h' with hm | ⟨i, l, x1, x2, x3⟩
 ·rw [ht] at hm; cases hm
 ·exact ⟨i, l, x1, x2, fun x hx => hL _ _ (x3 x hx)⟩
end
/-! ### the checker's rounds -/
section
variable (K : (List TJFunc) → (List TJVal) → (List (List (List UInt8))) → Int → Int → (List Int) → (List TJIns) → Int → (List (Int × Tstate)) → (List Int) → Bool → Option (Bool × Tchecker))
noncomputable abbrev RL (k : Nat) (c : Tchecker) : Option (Bool × Tchecker) := Zo K k c.f_p.Funcs c.f_p.Consts c.f_p.Shapes c.f_f.Params c.f_f.Slots c.f_f.Caught c.f_f.Code c.f_own c.f_seen c.f_todo c.f_bad
abbrev KA (c : Tchecker) : Option (Bool × Tchecker) := K c.f_p.Funcs c.f_p.Consts c.f_p.Shapes c.f_f.Params c.f_f.Slots c.f_f.Caught c.f_f.Code c.f_own c.f_seen c.f_todo c.f_bad
theorem RL_stop (k : Nat) (c : Tchecker) (h : c.f_todo = [] ∨ c.f_bad = true) : RL K (k + 1) c = KA K c := by
 unfold RL KA
 rw [Zo, if_neg]
 rcases h with h | h <;> simp [h]
theorem RL_step (k : Nat) (c c' : Tchecker) (ts : List Int) (a : Int) (hl : ts.length ≤ 10000) (ht : c.f_todo = ts ++ [a]) (hb : c.f_bad = false) (h : Zv { c with f_todo := ts } a = some c') : RL K (k + 1) c = RL K k c' := by
 unfold RL
 rw [Zo, if_pos (by simp [ht, hb])]
 have e : wi ((c.f_todo.length : Int) - 1) = (ts.length : Int) := by
  rw [ht, List.length_append, List.length_singleton, wi_id (by omega) (by omega)]; omega
 rw [e, show at? c.f_todo (ts.length : Int) = some a by rw [ht, at_nat]; simp, Option.bind_some]
 rw [show sub? c.f_todo 0 (ts.length : Int) = some ts by rw [ht, sub_take (by simp), List.take_left], Option.bind_some]
 have h' : Zv (⟨(⟨c.f_p.Funcs, c.f_p.Consts, c.f_p.Shapes⟩ : TJProg), (⟨c.f_f.Params, c.f_f.Slots, c.f_f.Caught, c.f_f.Code⟩ : TJFunc), c.f_own, c.f_seen, ts, c.f_bad⟩ : Tchecker) a = some c' := h
 rw [h', Option.bind_some]
end
theorem right_run (p : TJProg) (f : TJFunc) (own : Int) (S : Sm p f) (IO : ∀ i, i ∈ f.Code → InsOK p f i) (K : (List TJFunc) → (List TJVal) → (List (List (List UInt8))) → Int → Int → (List Int) → (List TJIns) → Int → (List (Int × Tstate)) → (List Int) → Bool → Option (Bool × Tchecker)) :
  ∀ (m : Nat) (c : Tchecker), Inv p f own c → mget c.f_seen 0 = some (stOf (0, [])) → Clo p f own c → (∀ L, Good p f own L → Fit L c) → c.f_bad = false → 2 * fr f.Code.length c.f_seen + c.f_todo.length ≤ m →
   ∃ c'', (∀ k, RL K (k + m + 1) c = KA K c'') ∧ (c''.f_bad = false ↔ ∃ L, Good p f own L) := by
 intro m
 induction m with
 | zero =>
  intro c H hz C F hb hm
  have ht : c.f_todo = [] := List.length_eq_zero_iff.1 (by omega)
  exact ⟨c, fun k => RL_stop K _ c (.inl ht), ⟨fun _ => good_of c H hz C ht, fun _ => hb⟩⟩
 | succ m ih =>
  intro c H hz C F hb hm
  rcases List.eq_nil_or_concat c.f_todo with ht | ⟨ts, a, ht⟩
  ·exact ⟨c, fun k => RL_stop K _ c (.inl ht), ⟨fun _ => good_of c H hz C ht, fun _ => hb⟩⟩
  ·rw [List.concat_eq_append] at ht
   have hcode := S.code
   have hlen := H.len
   have htl : c.f_todo.length = ts.length + 1 := by rw [ht]; simp
   have hfr := fr_le f.Code.length c.f_seen
   obtain ⟨u, hu⟩ := H.todo a (by rw [ht]; simp)
   obtain ⟨a0, a1, s, rfl, s0, s1, s2⟩ := H.seen a u hu
   obtain ⟨n, rfl⟩ : ∃ n : Nat, a = n := ⟨a.toNat, by omega⟩
   have hn : n < f.Code.length := by omega
   generalize hc1 : ({ c with f_todo := ts } : Tchecker) = c1
   have H1 : Inv p f own c1 := by
    subst hc1
    exact ⟨H.hp, H.hf, H.ho, H.seen, fun t h => H.todo t (by rw [ht]; exact List.mem_append_left _ h), by simp only; omega⟩
   have F1 : ∀ L, Good p f own L → Fit L c1 := by
    subst hc1
    exact fun L G => F L G
   have e1 : c1.f_seen = c.f_seen := by subst hc1; rfl
   have e2 : c1.f_todo = ts := by subst hc1; rfl
   have e3 : c1.f_bad = false := by subst hc1; exact hb
   have hp := H1.hp
   have hf := H1.hf
   have ho := H1.ho
   have hat : f.Code[n]? = some f.Code[n] := List.getElem?_eq_getElem hn
   have II := IO _ (List.getElem_mem hn)
   have SE := step_eq c1 n f.Code[n] s (by rw [hp, hf]; exact S) (by rw [hf]; exact hat) (by rw [hp, hf]; exact II) (by rw [e1]; exact hu) s0 (by omega) (by omega) (by rw [e2]; omega)
   rw [show nxt c1.f_p c1.f_own f.Code[n] (n : Int) s = nxt p own f.Code[n] (n : Int) s by rw [hp, ho]] at SE
   rcases SE with ⟨x1, x2⟩ | ⟨l, c', x1, x2, x3⟩
   ·refine ⟨{ c1 with f_bad := true }, fun k => ?_, ⟨fun h => (by simp at h), fun ⟨L, G⟩ => ?_⟩⟩
    ·rw [show k + (m + 1) + 1 = (k + m + 1) + 1 by omega, RL_step K _ c _ ts n (by omega) ht hb (by rw [hc1]; exact x2)]
     rw [RL_stop K _ _ (.inr rfl)]
    ·exfalso
     have := (F L G).2 _ _ hu
     obtain ⟨_, _, i, l, y1, y2, _⟩ := G.2 _ _ this
     rw [show ((n : Nat) : Int).toNat = n by omega, hat] at y1
     cases y1
     rw [x1] at y2
     cases y2
   ·have hbd : ∀ x, x ∈ l → 0 ≤ x.2.1 ∧ x.2.1 + (fr f.Code.length c1.f_seen : Int) ≤ (f.Code.length : Int) + 1 ∧ x.2.2.length + fr f.Code.length c1.f_seen ≤ f.Code.length + 1 := by
     intro x hx
     have := nxt_b II S s0 x1 x hx
     rw [e1]
     omega
    have hfit : ∀ L, Good p f own L → Fit L c' := by
     intro L G
     have hLs := (F L G).2 _ _ hu
     obtain ⟨_, _, i, l', y1, y2, y3⟩ := G.2 _ _ hLs
     rw [show ((n : Nat) : Int).toNat = n by omega, hat] at y1
     cases y1
     rw [x1] at y2
     cases y2
     exact outs_fit G x3 H1 hbd y3 (F1 L G)
    by_cases hb' : c'.f_bad = true
    ·refine ⟨c', fun k => ?_, ⟨fun h => (by rw [hb'] at h; cases h), fun ⟨L, G⟩ => (hfit L G).1⟩⟩
     rw [show k + (m + 1) + 1 = (k + m + 1) + 1 by omega, RL_step K _ c _ ts n (by omega) ht hb (by rw [hc1]; exact x2)]
     exact RL_stop K _ _ (.inr hb')
    ·have hb2 : c'.f_bad = false := by simpa using hb'
     obtain ⟨z1, z2, z3⟩ := outs_inv x3 H1 hbd hb2
     have zo := z2.old
     have zm := z2.ms
     rw [e1, e2] at zm
     obtain ⟨c'', w1, w2⟩ := ih c' z1 (zo _ _ (by rw [e1]; exact hz)) (fun t s' h => by
      rcases z2.new t _ h with h1 | h1
      ·rw [e1] at h1
       rcases C t s' h1 with h2 | ⟨i, l2, y1, y2, y3⟩
       ·rw [ht] at h2
        rcases List.mem_append.1 h2 with h2 | h2
        ·exact .inl (z2.td t (by rw [e2]; exact h2))
        ·simp at h2
         subst h2
         rw [hu] at h1
         have := stOf_inj (Option.some.inj h1)
         subst this
         exact .inr ⟨_, l, by rw [show ((n : Nat) : Int).toNat = n by omega]; exact hat, x1, z3⟩
       ·exact .inr ⟨i, l2, y1, y2, fun x hx => zo _ _ (by rw [e1]; exact y3 x hx)⟩
      ·exact .inl h1) hfit hb2 (by omega)
     refine ⟨c'', fun k => ?_, w2⟩
     rw [show k + (m + 1) + 1 = (k + m + 1) + 1 by omega, RL_step K _ c _ ts n (by omega) ht hb (by rw [hc1]; exact x2)]
     exact w1 k
/-- a function is right, by the program -/
theorem right_eq (p : TJProg) (f : TJFunc) (own : Int) (S : Sm p f) : ∃ b c', Z1n (⟨p, f, own, [], [], false⟩ : Tchecker) = some (b, c') ∧ (b = true ↔ HeadOK f ∧ (∀ i, i ∈ f.Code → InsOK p f i) ∧ ∃ L, Good p f own L) := by
 have hcode := S.code
 unfold Z1n
 obtain ⟨b, h1, h2⟩ := form1_eq (⟨p, f, own, [], [], false⟩ : Tchecker) S
 rw [h1, Option.bind_some]
 cases b with
 | false =>
  simp only [Bool.not_false, if_true]
  refine ⟨false, _, rfl, by simp only [Bool.false_eq_true, false_iff]; exact fun h => by have := h2.2 ⟨h.1, h.2.1⟩; cases this⟩
 | true =>
  rw [if_neg (by simp)]
  have hio := h2.1 rfl
  obtain ⟨c1, r1, r2⟩ := reach_out (⟨p, f, own, [], [], false⟩ : Tchecker) 0 (0, []) (by simp) (by simp)
  rw [show (⟨0, []⟩ : Tstate) = stOf (0, []) from rfl, r1, Option.bind_some]
  rcases r2.out with ⟨q, q'⟩ | ⟨_, _, _, _, q⟩ | ⟨_, q0, q1, q2, rfl⟩
  ·refine ⟨!c1.f_bad, c1, lim_add 1 fun k => RL_stop _ k c1 (.inr q), ?_⟩
   rw [q]
   simp only [Bool.not_true, Bool.false_eq_true, false_iff]
   rintro ⟨_, _, L, G⟩
   have g := G.2 _ _ G.1
   rcases q' with q' | q' | q' | ⟨u, q1, q2⟩
   ·cases q'
   ·exact q' ⟨g.1, g.2.1⟩
   ·simp at q'
   ·simp [mget] at q1
  ·simp [mget] at q
  ·have q1' : (0 : Int) < (f.Code.length : Int) := q1
   have hl := fr_lt (n := f.Code.length) (m := []) (stOf (0, [])) q0 q1' rfl
   have hl2 := fr_le f.Code.length ([] : List (Int × Tstate))
   have ee : mset ([] : List (Int × Tstate)) 0 (stOf (0, [])) = [(0, stOf (0, []))] := rfl
   have hg : ∀ t u, mget (mset ([] : List (Int × Tstate)) 0 (stOf (0, []))) t = some u → t = 0 ∧ u = stOf (0, []) := by
    intro t u h
    by_cases e : t = 0
    ·rw [e, mget_same] at h
     exact ⟨e, (Option.some.inj h).symm⟩
    ·rw [mget_other _ e] at h
     simp [mget] at h
   obtain ⟨c'', w1, w2⟩ := right_run p f own S hio.2 (fun (c01 : (List TJFunc)) (c11 : (List TJVal)) (c21 : (List (List (List UInt8)))) (c31 : Int) (c41 : Int) (c51 : (List Int)) (c61 : (List TJIns)) (c71 : Int) (c81 : (List (Int × Tstate))) (c91 : (List Int)) (c101 : Bool) => 
    some ((!c101), (⟨(⟨c01, c11, c21⟩ : TJProg), (⟨c31, c41, c51, c61⟩ : TJFunc), c71, c81, c91, c101⟩ : Tchecker)))
    (2 * f.Code.length + 1) (⟨p, f, own, mset [] 0 (stOf (0, [])), [0], false⟩ : Tchecker)
    ⟨rfl, rfl, rfl, fun t u h => by
     obtain ⟨rfl, rfl⟩ := hg t u h
     exact ⟨q0, q1', (0, []), rfl, by simp, by simp only; omega, by simp only [List.length_nil]; omega⟩, fun t h => by
     simp at h
     subst h
     exact ⟨_, mget_same _ _ _⟩, by simp only [List.length_singleton]; omega⟩
    (mget_same _ _ _) (fun t s h => .inl (by rw [(hg _ _ h).1]; simp)) (fun L G => ⟨rfl, fun t s h => by
     obtain ⟨rfl, h9⟩ := hg _ _ h
     rw [stOf_inj h9]
     exact G.1⟩) rfl (by simp only [List.length_singleton]; omega)
   refine ⟨!c''.f_bad, c'', lim_add (2 * f.Code.length + 1 + 1) fun k => w1 k, ?_⟩
   rw [Bool.not_eq_true']
   exact w2.trans ⟨fun h => ⟨hio.1, hio.2, h⟩, fun h => h.2.2⟩
end Go.Proofs.YtolmbcngghkfiaaDoorBv
/- A function is right, by the document: what is known is carried on again and again, till nothing more is. No program is in sight. -/
namespace Go.Proofs.YtolmbcngghkfiaaDoorBv
open Go
set_option linter.unusedSimpArgs false
set_option linter.unusedVariables false
abbrev atOf (s : Sx) : Tat := ⟨true, s.1, s.2⟩
theorem atOf_inj {s t : Sx} (h : atOf s = atOf t) : s = t := by
 simp only [atOf, Tat.mk.injEq, true_and] at h
 exact Prod.ext h.1 h.2
def cn (l : List Tat) : Nat := l.countP fun a => !a.f_known
theorem cn_set : ∀ {l : List Tat} {t : Nat} {b a : Tat}, l[t]? = some b → b.f_known = false → a.f_known = true → cn (l.set t a) + 1 = cn l
 | [], t, b, a, h, _, _ => by simp at h
 | x :: l, 0, b, a, h, h1, h2 => by
  simp at h
  subst h
  simp [cn, List.countP_cons, h1, h2]
 | x :: l, t + 1, b, a, h, h1, h2 => by
  have := cn_set (l := l) (t := t) (b := b) (a := a) (by simpa using h) h1 h2
  unfold cn at this ⊢
  simp only [List.set_cons_succ, List.countP_cons]
  omega
structure AInv (n : Nat) (all : List Tat) : Prop where
 len : all.length = n + 1
 kn : ∀ (t : Nat) (s : Sx), all[t]? = some (atOf s) → t < n ∧ 0 ≤ s.1 ∧ s.1 + (cn all : Int) ≤ (n : Int) + 1 ∧ s.2.length + cn all ≤ n + 1
structure Go1 (n : Nat) (all all' : List Tat) (more more' : Bool) (l : List (Int × Sx)) : Prop where
 inv : AInv n all'
 old : ∀ (t : Nat) (s : Sx), all[t]? = some (atOf s) → all'[t]? = some (atOf s)
 new : ∀ (t : Nat) (s : Sx), all'[t]? = some (atOf s) → all[t]? = some (atOf s) ∨ ((t : Int), s) ∈ l
 got : ∀ x, x ∈ l → x.1 < (n : Int) ∧ all'[x.1.toNat]? = some (atOf x.2)
 ch : (more' = more ∧ all' = all) ∨ (more' = true ∧ cn all' < cn all)
theorem Go1.le {n : Nat} {all all' : List Tat} {more more' : Bool} {l : List (Int × Sx)} (g : Go1 n all all' more more' l) : cn all' ≤ cn all := by
 rcases g.ch with ⟨_, h⟩ | ⟨_, h⟩
 ·rw [h]; exact Nat.le_refl _
 ·omega
theorem Go1.trans {n : Nat} {a b c : List Tat} {m1 m2 m3 : Bool} {l k : List (Int × Sx)} (g : Go1 n a b m1 m2 l) (h : Go1 n b c m2 m3 k) : Go1 n a c m1 m3 (l ++ k) where
 inv := h.inv
 old t s x := h.old t s (g.old t s x)
 new t s x := by
  rcases h.new t s x with x | x
  ·rcases g.new t s x with x | x
   ·exact .inl x
   ·exact .inr (List.mem_append_left _ x)
  ·exact .inr (List.mem_append_right _ x)
 got x hx := by
  rcases List.mem_append.1 hx with hx | hx
  ·exact ⟨(g.got x hx).1, h.old _ _ (g.got x hx).2⟩
  ·exact h.got x hx
 ch := by
  rcases g.ch with ⟨g1, g2⟩ | ⟨g1, g2⟩ <;> rcases h.ch with ⟨h1, h2⟩ | ⟨h1, h2⟩
  ·exact .inl ⟨h1.trans g1, h2.trans g2⟩
  ·exact .inr ⟨h1, by rw [g2] at h2; exact h2⟩
  ·exact .inr ⟨h1.trans g1, by rw [h2]; exact g2⟩
  ·exact .inr ⟨h1, by omega⟩
open Classical in
/-- one entry: it is held against what is known, or it is told -/
noncomputable def ent (n : Nat) (all : List Tat) (more : Bool) (e : Int × Tat) : Option (List Tat × Bool) :=
 if (n : Int) ≤ e.1 then none else match all[e.1.toNat]? with
  | none => none
  | some y => if y.f_known = true then if y.f_height = e.2.f_height ∧ y.f_tries = e.2.f_tries then some (all.set e.1.toNat e.2, more) else none else some (all.set e.1.toNat e.2, true)
theorem tat_eta {y : Tat} (h : y.f_known = true) : y = atOf (y.f_height, y.f_tries) := by cases y; simp_all
theorem set_same {α : Type} {l : List α} {t : Nat} {a : α} (h : l[t]? = some a) : l.set t a = l := by
 apply List.ext_getElem?
 intro j
 by_cases e : j = t
 ·subst e
  rw [List.getElem?_set_self (List.getElem?_eq_some_iff.1 h).1, h]
 ·rw [List.getElem?_set_ne (Ne.symm e)]
theorem ent_go {n : Nat} {all : List Tat} {more : Bool} {t : Int} {s : Sx} (H : AInv n all) (h0 : 0 ≤ t) (s0 : 0 ≤ s.1) (s1 : s.1 + (cn all : Int) ≤ (n : Int) + 2) (s2 : s.2.length + cn all ≤ n + 2) :
  (ent n all more (t, atOf s) = none ∧ (¬ t < (n : Int) ∨ ∃ s', all[t.toNat]? = some (atOf s') ∧ s' ≠ s)) ∨ ∃ all' more', ent n all more (t, atOf s) = some (all', more') ∧ Go1 n all all' more more' [(t, s)] := by
 classical
 unfold ent
 simp only
 by_cases hn : (n : Int) ≤ t
 ·exact .inl ⟨if_pos hn, .inl (by omega)⟩
 ·have ht : t.toNat < all.length := by have := H.len; omega
  rw [if_neg hn, List.getElem?_eq_getElem ht]
  have hg : all[t.toNat]? = some all[t.toNat] := List.getElem?_eq_getElem ht
  generalize all[t.toNat] = y at hg
  simp only
  by_cases hk : y.f_known = true
  ·rw [if_pos hk]
   by_cases he : y.f_height = s.1 ∧ y.f_tries = s.2
   ·rw [if_pos he]
    have hy : all[t.toNat]? = some (atOf s) := by
     rw [hg, tat_eta hk]
     simp only [he.1, he.2]
    refine .inr ⟨_, _, rfl, ?_⟩
    rw [set_same hy]
    exact ⟨H, fun _ _ h => h, fun _ _ h => .inl h, fun x hx => by simp at hx; subst hx; exact ⟨by simp only; omega, hy⟩, .inl ⟨rfl, rfl⟩⟩
   ·rw [if_neg he]
    refine .inl ⟨rfl, .inr ⟨(y.f_height, y.f_tries), congrArg some (tat_eta hk), ?_⟩⟩
    rintro rfl
    exact he ⟨rfl, rfl⟩
  ·rw [if_neg hk]
   have hk' : y.f_known = false := by simpa using hk
   have hc := cn_set (a := atOf s) hg hk' rfl
   refine .inr ⟨_, _, rfl, ⟨by rw [List.length_set]; exact H.len, fun t' s' h => ?_⟩, fun t' s' h => ?_, fun t' s' h => ?_, fun x hx => ?_, .inr ⟨rfl, by omega⟩⟩
   ·by_cases e : t' = t.toNat
    ·subst e
     rw [List.getElem?_set_self ht] at h
     obtain rfl := atOf_inj (Option.some.inj h)
     exact ⟨by omega, s0, by omega, by omega⟩
    ·rw [List.getElem?_set_ne (Ne.symm e)] at h
     have := H.kn t' s' h
     omega
   ·by_cases e : t' = t.toNat
    ·subst e
     rw [hg] at h
     cases h
     cases hk'
    ·rw [List.getElem?_set_ne (Ne.symm e)]
     exact h
   ·by_cases e : t' = t.toNat
    ·subst e
     rw [List.getElem?_set_self ht] at h
     obtain rfl := atOf_inj (Option.some.inj h)
     exact .inr (by simp; omega)
    ·rw [List.getElem?_set_ne (Ne.symm e)] at h
     exact .inl h
   ·simp at hx
    subst hx
    exact ⟨by simp only; omega, List.getElem?_set_self ht⟩
theorem ent_comm {n : Nat} {all : List Tat} {more : Bool} {e1 e2 : Int × Tat} (h1 : 0 ≤ e1.1) (h2 : 0 ≤ e2.1) (hne : e1.1 ≠ e2.1) :
  ((ent n all more e1).bind fun am => ent n am.1 am.2 e2) = ((ent n all more e2).bind fun am => ent n am.1 am.2 e1) := by
 classical
 have hn' : e1.1.toNat ≠ e2.1.toNat := by omega
 unfold ent
 by_cases a1 : (n : Int) ≤ e1.1 <;> by_cases a2 : (n : Int) ≤ e2.1
 ·simp [a1, a2]
 ·rw [if_pos a1, if_neg a2, Option.bind_none]
  cases all[e2.1.toNat]? with
  | none => rfl
  | some y => simp only; split <;> (try split) <;> simp [a1]
 ·rw [if_pos a2, if_neg a1, Option.bind_none]
  cases all[e1.1.toNat]? with
  | none => rfl
  | some y => simp only; split <;> (try split) <;> simp [a2]
 ·rw [if_neg a1, if_neg a2]
  cases g1 : all[e1.1.toNat]? with
  | none =>
   cases g2 : all[e2.1.toNat]? with
   | none => rfl
   | some z => simp only; by_cases k2 : z.f_known = true <;> by_cases q2 : z.f_height = e2.2.f_height ∧ z.f_tries = e2.2.f_tries <;> simp only [k2, q2, if_true, if_false, a1, a2, Option.bind_some, Option.bind_none, List.getElem?_set_ne hn', List.getElem?_set_ne (Ne.symm hn'), g1, g2, and_self, and_true, true_and, Bool.false_eq_true]
  | some y =>
   cases g2 : all[e2.1.toNat]? with
   | none => simp only; by_cases k1 : y.f_known = true <;> by_cases q1 : y.f_height = e1.2.f_height ∧ y.f_tries = e1.2.f_tries <;> simp only [k1, q1, if_true, if_false, a1, a2, Option.bind_some, Option.bind_none, List.getElem?_set_ne hn', List.getElem?_set_ne (Ne.symm hn'), g1, g2, and_self, and_true, true_and, Bool.false_eq_true]
   | some z =>
    simp only
    by_cases k1 : y.f_known = true <;> by_cases k2 : z.f_known = true <;> by_cases q1 : y.f_height = e1.2.f_height ∧ y.f_tries = e1.2.f_tries <;> by_cases q2 : z.f_height = e2.2.f_height ∧ z.f_tries = e2.2.f_tries <;>
     simp only [k1, k2, q1, q2, if_true, if_false, a1, a2, Option.bind_some, Option.bind_none, List.getElem?_set_ne hn', List.getElem?_set_ne (Ne.symm hn'), g1, g2, List.set_comm _ _ hn', and_self, and_true, true_and, Bool.false_eq_true]
/-! ### the entries of what is to be told -/
section
variable (f : TJFunc) (own v : Int) (p : TJProg) (K9 : List Tat → Bool → Option Bool)
noncomputable def BD (k : Nat) (all_5 : List Tat) (more4 : Bool) (p_1 : Int × Tat) (left1 : List (Int × Tat)) : Option Bool :=
   if decide ((f.Code.length : Int) ≤ p_1.1) then
    some false
   else
    (at? all_5 p_1.1).bind fun x_9 =>
    if x_9.f_known then
     (at? all_5 p_1.1).bind fun x_10 =>
     if (!decide (x_10.f_height = p_1.2.f_height)) then
      Zf more4 p_1 left1 own f v p (Z1 f own v p K9 k) K9 all_5 true
     else
      (at? all_5 p_1.1).bind fun x_11 =>
      (Z19 x_11.f_tries p_1.2.f_tries).bind fun r_1 =>
      Zf more4 p_1 left1 own f v p (Z1 f own v p K9 k) K9 all_5 (!r_1)
    else
     Zf more4 p_1 left1 own f v p (Z1 f own v p K9 k) K9 all_5 false
theorem l40_succ (k : Nat) (all : List Tat) (more : Bool) (left : List (Int × Tat)) : Z1 f own v p K9 (k + 1) all more left = pickM left (K9 all more) (BD f own v p K9 k all more) := rfl
theorem BD_eq (k : Nat) (all : List Tat) (more : Bool) (e : Int × Tat) (left1 : List (Int × Tat)) (H : AInv f.Code.length all) (hn : f.Code.length ≤ 8000) (h0 : 0 ≤ e.1) :
  BD f own v p K9 k all more e left1 = match ent f.Code.length all more e with
   | none => some false
   | some am => Z1 f own v p K9 k am.1 am.2 left1 := by
 classical
 unfold BD ent
 by_cases a : (f.Code.length : Int) ≤ e.1
 ·rw [if_pos (by simpa using a), if_pos a]
 ·rw [if_neg (by simpa using a), if_neg a]
  have ht : e.1.toNat < all.length := by have := H.len; omega
  have hat : at? all e.1 = some all[e.1.toNat] := by rw [at_of h0]; exact List.getElem?_eq_getElem ht
  have hg : all[e.1.toNat]? = some all[e.1.toNat] := List.getElem?_eq_getElem ht
  rw [hat, hg]
  generalize all[e.1.toNat] = y at *
  simp only [Option.bind_some]
  have j1 : ∀ m, Z1c e left1 own f v p (Z1 f own v p K9 k) K9 all m = Z1 f own v p K9 k (all.set e.1.toNat e.2) m left1 := by
   intro m
   unfold Z1c
   rw [hat]; rfl
  have j0 : Zf more e left1 own f v p (Z1 f own v p K9 k) K9 all false = Z1 f own v p K9 k (all.set e.1.toNat e.2) (more || !y.f_known) left1 := by
   unfold Zf
   rw [if_neg Bool.false_ne_true]
   cases more with
   | true => rw [if_pos rfl, j1]; rfl
   | false => rw [if_neg Bool.false_ne_true, hat, Option.bind_some, j1]; rfl
  have jt : Zf more e left1 own f v p (Z1 f own v p K9 k) K9 all true = some false := by
   unfold Zf
   rw [if_pos rfl]
  by_cases hk : y.f_known = true
  ·rw [if_pos hk, if_pos hk]
   by_cases hh : y.f_height = e.2.f_height
   ·rw [if_neg (by simpa using hh)]
    have hb := H.kn e.1.toNat (y.f_height, y.f_tries) (by rw [hg]; exact congrArg some (tat_eta hk))
    obtain ⟨r, r1, r2⟩ := equal_pairs y.f_tries e.2.f_tries (by have := hb.2.2.2; simp only at this; omega)
    rw [r1, Option.bind_some]
    cases r with
    | true => rw [Bool.not_true, j0, if_pos ⟨hh, r2.1 rfl⟩, hk]; simp
    | false => rw [Bool.not_false, jt, if_neg (fun h => by have := r2.2 h.2; cases this)]
   ·rw [if_pos (by simpa using hh), jt, if_neg (fun h => hh h.1)]
  ·rw [if_neg hk, if_neg hk, j0]
   simp only [Bool.not_eq_true] at hk
   rw [hk]
   simp
theorem pick1 {α β : Type} (a : α) (e : Option β) (F : α → List α → Option β) : pickM [a] e F = F a [] := by
 unfold pickM
 simp only
 rw [if_pos]
 intro i q h
 cases i with
 | zero => simp at h; subst h; rfl
 | succ i => simp at h
theorem pick2 {α β : Type} (a b : α) (e : Option β) (F : α → List α → Option β) (h : F b [a] = F a [b]) : pickM [a, b] e F = F a [b] := by
 unfold pickM
 simp only
 rw [if_pos]
 intro i q hq
 match i, hq with
 | 0, hq => simp at hq; subst hq; rfl
 | 1, hq => simp at hq; subst hq; exact h
 | i + 2, hq => simp at hq
/-- what is wrong with what is to be told -/
def Bad (n : Nat) (all : List Tat) (l : List (Int × Sx)) : Prop := ∃ x, x ∈ l ∧ (¬ x.1 < (n : Int) ∨ ∃ s', all[x.1.toNat]? = some (atOf s') ∧ s' ≠ x.2)
def Sma (n : Nat) (all : List Tat) (l : List (Int × Sx)) : Prop := ∀ x, x ∈ l → 0 ≤ x.1 ∧ 0 ≤ x.2.1 ∧ x.2.1 + (cn all : Int) ≤ (n : Int) + 2 ∧ x.2.2.length + cn all ≤ n + 2
theorem run1 (all : List Tat) (more : Bool) (t : Int) (s : Sx) (H : AInv f.Code.length all) (hn : f.Code.length ≤ 8000) (B : Sma f.Code.length all [(t, s)]) :
  (Bad f.Code.length all [(t, s)] ∧ ∀ K9 k, Z1 f own v p K9 (k + 3) all more [(t, atOf s)] = some false) ∨
  ∃ all' more', Go1 f.Code.length all all' more more' [(t, s)] ∧ ∀ K9 k, Z1 f own v p K9 (k + 3) all more [(t, atOf s)] = K9 all' more' := by
 obtain ⟨b0, b1, b2, b3⟩ := B _ List.mem_cons_self
 have e : ∀ K9 k, Z1 f own v p K9 (k + 3) all more [(t, atOf s)] = _ := fun K9 k => (l40_succ f own v p K9 (k + 2) all more _).trans ((pick1 _ _ _).trans (BD_eq f own v p K9 (k + 2) all more _ _ H hn b0))
 rcases ent_go (more := more) H b0 b1 b2 b3 with ⟨x1, x2⟩ | ⟨all', more', x1, x2⟩
 ·refine .inl ⟨⟨_, List.mem_cons_self, x2⟩, fun K9 k => ?_⟩
  rw [e K9 k, x1]
 ·refine .inr ⟨all', more', x2, fun K9 k => ?_⟩
  rw [e K9 k, x1]
  rfl
theorem run2 (all : List Tat) (more : Bool) (t t' : Int) (s s' : Sx) (hne : t ≠ t') (H : AInv f.Code.length all) (hn : f.Code.length ≤ 8000) (B : Sma f.Code.length all [(t, s), (t', s')]) :
  (Bad f.Code.length all [(t, s), (t', s')] ∧ ∀ K9 k, Z1 f own v p K9 (k + 3) all more [(t, atOf s), (t', atOf s')] = some false) ∨
  ∃ all' more', Go1 f.Code.length all all' more more' [(t, s), (t', s')] ∧ ∀ K9 k, Z1 f own v p K9 (k + 3) all more [(t, atOf s), (t', atOf s')] = K9 all' more' := by
 obtain ⟨b0, b1, b2, b3⟩ := B (t, s) List.mem_cons_self
 obtain ⟨c0, c1, c2, c3⟩ := B (t', s') (by simp)
 simp only at b0 b1 b2 b3 c0 c1 c2 c3
 have G1 := ent_go (more := more) H b0 b1 b2 b3
 have G2 := ent_go (more := more) H c0 c1 c2 c3
 have two : ∀ (K9 : List Tat → Bool → Option Bool) (k : Nat) (e1 e2 : Int × Tat), 0 ≤ e1.1 → 0 ≤ e2.1 → (∀ am, ent f.Code.length all more e1 = some am → AInv f.Code.length am.1) → BD f own v p K9 (k + 2) all more e1 [e2] = match ((ent f.Code.length all more e1).bind fun am => ent f.Code.length am.1 am.2 e2) with
   | none => some false
   | some am => K9 am.1 am.2 := by
  intro K9 k e1 e2 q1 q2 hI
  rw [BD_eq f own v p K9 (k + 2) all more _ _ H hn q1]
  cases hx : ent f.Code.length all more e1 with
  | none => rfl
  | some am =>
   simp only [Option.bind_some]
   rw [l40_succ, pick1, BD_eq f own v p K9 (k + 1) am.1 am.2 _ _ (hI am hx) hn q2]
   cases ent f.Code.length am.1 am.2 e2 with
   | none => rfl
   | some am' => rfl
 have I1 : ∀ am, ent f.Code.length all more (t, atOf s) = some am → AInv f.Code.length am.1 := by
  intro am h
  rcases G1 with ⟨x1, _⟩ | ⟨all', more', x1, x2⟩
  ·rw [x1] at h; cases h
  ·rw [x1] at h; cases h; exact x2.inv
 have I2 : ∀ am, ent f.Code.length all more (t', atOf s') = some am → AInv f.Code.length am.1 := by
  intro am h
  rcases G2 with ⟨x1, _⟩ | ⟨all', more', x1, x2⟩
  ·rw [x1] at h; cases h
  ·rw [x1] at h; cases h; exact x2.inv
 have e : ∀ K9 k, Z1 f own v p K9 (k + 3) all more [(t, atOf s), (t', atOf s')] = match ((ent f.Code.length all more (t, atOf s)).bind fun am => ent f.Code.length am.1 am.2 (t', atOf s')) with
   | none => some false
   | some am => K9 am.1 am.2 := by
  intro K9 k
  rw [l40_succ, pick2 _ _ _ _ (by rw [two K9 k _ _ c0 b0 I2, two K9 k _ _ b0 c0 I1, ent_comm (e1 := (t, atOf s)) (e2 := (t', atOf s')) b0 c0 hne]), two K9 k _ _ b0 c0 I1]
 rcases G1 with ⟨x1, x2⟩ | ⟨all', more', x1, x2⟩
 ·refine .inl ⟨⟨_, List.mem_cons_self, x2⟩, fun K9 k => ?_⟩
  rw [e K9 k, x1]
  rfl
 ·have hle := x2.le
  rcases ent_go (more := more') (t := t') (s := s') x2.inv c0 c1 (by omega) (by omega) with ⟨y1, y2⟩ | ⟨all2, more2, y1, y2⟩
  ·refine .inl ⟨⟨(t', s'), by simp, ?_⟩, fun K9 k => ?_⟩
   ·rcases y2 with y2 | ⟨s2, y2, y3⟩
    ·exact .inl y2
    ·rcases x2.new _ _ y2 with z | z
     ·exact .inr ⟨s2, z, y3⟩
     ·simp at z
      omega
   ·rw [e K9 k, x1, Option.bind_some]
    simp only [y1]
  ·refine .inr ⟨all2, more2, x2.trans y2, fun K9 k => ?_⟩
   rw [e K9 k, x1, Option.bind_some]
   simp only [y1]
end
end Go.Proofs.YtolmbcngghkfiaaDoorBv
/- A function is right, by the document: its form, the passes over its code. No program is in sight. -/
namespace Go.Proofs.YtolmbcngghkfiaaDoorBv
open Go
set_option linter.unusedSimpArgs false
set_option linter.unusedVariables false
def AFit (L : Int → Option Sx) (all : List Tat) : Prop := ∀ (t : Nat) (s : Sx), all[t]? = some (atOf s) → L t = some s
section
variable {p : TJProg} {f : TJFunc} {own : Int} {K6 : List Tat → Bool → Option Bool}
/-- a place from which all ways agree -/
def Cl (p : TJProg) (f : TJFunc) (own : Int) (all : List Tat) (j : Nat) (s : Sx) : Prop := ∃ i l, f.Code[j]? = some i ∧ nxt p own i (j : Int) s = some l ∧ ∀ x, x ∈ l → 0 ≤ x.1 ∧ x.1 < (f.Code.length : Int) ∧ all[x.1.toNat]? = some (atOf x.2)
theorem fit_go {L : Int → Option Sx} {all all' : List Tat} {more more' : Bool} {l : List (Int × Sx)} (F : AFit L all) (g : Go1 f.Code.length all all' more more' l) (h : ∀ x, x ∈ l → L x.1 = some x.2) : AFit L all' := by
 intro t s ht
 rcases g.new t s ht with a | a
 ·exact F t s a
 ·exact h _ a
theorem bad_no {L : Int → Option Sx} {all : List Tat} {l : List (Int × Sx)} (G : Good p f own L) (F : AFit L all) (h0 : ∀ x, x ∈ l → 0 ≤ x.1) (h : ∀ x, x ∈ l → L x.1 = some x.2) (B : Bad f.Code.length all l) : False := by
 obtain ⟨x, hx, B⟩ := B
 have hl := h x hx
 have g := G.2 _ _ hl
 rcases B with B | ⟨s', B, hne⟩
 ·exact B g.2.1
 ·have := F _ _ B
  rw [show ((x.1.toNat : Nat) : Int) = x.1 by have := g.1; omega, hl] at this
  exact hne (Option.some.inj this).symm
/-- one instruction of a pass -/
theorem pass_step (S : Sm p f) (IO : ∀ i, i ∈ f.Code → InsOK p f i) (all : List Tat) (more : Bool) (j : Nat) (hj : j < f.Code.length) (H : AInv f.Code.length all) :
  (∃ all' more' l, Go1 f.Code.length all all' more more' l ∧ (∀ L, Good p f own L → AFit L all → ∀ x, x ∈ l → L x.1 = some x.2) ∧ (∀ s, all[j]? = some (atOf s) → Cl p f own all' j s) ∧
   ∀ m, Z0 f own p K6 (m + 1) all more (j : Int) = Z0 f own p K6 m all' more' ((j + 1 : Nat) : Int)) ∨
  ((∀ L, Good p f own L → AFit L all → False) ∧ ∀ m, Z0 f own p K6 (m + 1) all more (j : Int) = some false) := by
 have hc := S.code
 have hat : f.Code[j]? = some f.Code[j] := List.getElem?_eq_getElem hj
 have I := IO _ (List.getElem_mem hj)
 generalize f.Code[j] = i at hat I
 have hja : j < all.length := by have := H.len; omega
 have hga : all[j]? = some all[j] := List.getElem?_eq_getElem hja
 generalize all[j] = y at hga
 have hwk : wi ((j : Int) + 1) = (j : Int) + 1 := wi_id (by omega) (by omega)
 have hwj : ((j + 1 : Nat) : Int) = (j : Int) + 1 := by omega
 by_cases hk : y.f_known = true
 ·have hy : all[j]? = some (atOf (y.f_height, y.f_tries)) := by rw [hga]; exact congrArg some (tat_eta hk)
  obtain ⟨_, q1, q2, q3⟩ := H.kn j _ hy
  simp only at q1 q2 q3
  have hyn : ∀ s, all[j]? = some (atOf s) → s = (y.f_height, y.f_tries) := by
   intro s h
   rw [hy] at h
   exact (atOf_inj (Option.some.inj h)).symm
  have m := mv_b I S
  have hmv := moved_eq I S
  have hcn : 1 ≤ f.Code.length := by omega
  -- how it goes on once the entries are told
  have j275 : ∀ (to_ : List (Int × Tat)) (mm : Nat), Z6 f own (j : Int) p more (Z0 f own p K6 mm) K6 all to_ =
    lim fun kk1 => Z1 f own (j : Int) p (fun (a : List Tat) (b : Bool) => Z0 f own p K6 mm a b ((j + 1 : Nat) : Int)) kk1 all more to_ := by
   intro to_ mm
   unfold Z6 Z1b
   rw [hwk, hwj]
  have sma : ∀ l, nxt p own i (j : Int) (y.f_height, y.f_tries) = some l → Sma f.Code.length all l := by
   intro l hl x hx
   have b := nxt_b I S q1 hl x hx
   simp only at b
   refine ⟨?_, b.1, by omega, by omega⟩
   have a1 := I.a1
   unfold nxt at hl
   split at hl
   ·cases hl
   split at hl
   ·cases hl; simp at hx; subst hx; exact a1
   split at hl
   ·cases hl; simp at hx; rcases hx with rfl | rfl
    ·exact a1
    ·simp only; omega
   split at hl
   ·cases hl; simp at hx; rcases hx with rfl | rfl
    ·exact a1
    ·simp only; omega
   split at hl
   ·split at hl
    ·cases hl
    ·cases hl; simp at hx
   split at hl
   ·cases hl; simp at hx
   split at hl
   ·cases hl; simp at hx; rcases hx with rfl | rfl
    ·exact a1
    ·simp only; omega
   split at hl
   ·split at hl
    ·cases hl
    ·cases hl; simp at hx; subst hx; simp only; omega
   ·cases hl; simp at hx; subst hx; simp only; omega
  have fits : ∀ l, nxt p own i (j : Int) (y.f_height, y.f_tries) = some l → ∀ L, Good p f own L → AFit L all → ∀ x, x ∈ l → L x.1 = some x.2 := by
   intro l hl L G F
   obtain ⟨_, _, i', l', z1, z2, z3⟩ := G.2 _ _ (F _ _ hy)
   rw [show ((j : Nat) : Int).toNat = j by omega, hat] at z1
   cases z1
   rw [hl] at z2
   cases z2
   exact z3
  have none_no : nxt p own i (j : Int) (y.f_height, y.f_tries) = none → ∀ L, Good p f own L → AFit L all → False := by
   intro hl L G F
   obtain ⟨_, _, i', l', z1, z2, z3⟩ := G.2 _ _ (F _ _ hy)
   rw [show ((j : Nat) : Int).toNat = j by omega, hat] at z1
   cases z1
   rw [hl] at z2
   cases z2
  have clo : ∀ l all', nxt p own i (j : Int) (y.f_height, y.f_tries) = some l → Sma f.Code.length all l → (∀ x, x ∈ l → x.1 < (f.Code.length : Int) ∧ all'[x.1.toNat]? = some (atOf x.2)) → ∀ s, all[j]? = some (atOf s) → Cl p f own all' j s := by
   intro l all' hl B hx s hs
   rw [hyn s hs]
   exact ⟨i, l, hat, hl, fun x h => ⟨(B x h).1, hx x h⟩⟩
  -- ends of the kinds
  have end_ : ∀ (l : List (Int × Sx)) (to_ : List (Int × Tat)), nxt p own i (j : Int) (y.f_height, y.f_tries) = some l → (∀ mm, Z0 f own p K6 (mm + 1) all more (j : Int) = Z6 f own (j : Int) p more (Z0 f own p K6 mm) K6 all to_) →
    ((Bad f.Code.length all l ∧ ∀ K9 k, Z1 f own (j : Int) p K9 (k + 3) all more to_ = some false) ∨ ∃ all' more', Go1 f.Code.length all all' more more' l ∧ ∀ K9 k, Z1 f own (j : Int) p K9 (k + 3) all more to_ = K9 all' more') →
    (∃ all' more' l, Go1 f.Code.length all all' more more' l ∧ (∀ L, Good p f own L → AFit L all → ∀ x, x ∈ l → L x.1 = some x.2) ∧ (∀ s, all[j]? = some (atOf s) → Cl p f own all' j s) ∧
     ∀ m, Z0 f own p K6 (m + 1) all more (j : Int) = Z0 f own p K6 m all' more' ((j + 1 : Nat) : Int)) ∨
    ((∀ L, Good p f own L → AFit L all → False) ∧ ∀ m, Z0 f own p K6 (m + 1) all more (j : Int) = some false) := by
   intro l to_ hl he R
   have B := sma _ hl
   rcases R with ⟨x1, x2⟩ | ⟨all', more', x1, x2⟩
   ·refine .inr ⟨fun L G F => bad_no G F (fun x h => (B x h).1) (fits _ hl L G F) x1, fun mm => ?_⟩
    rw [he, j275]
    exact lim_add 3 fun k => x2 _ k
   ·refine .inl ⟨all', more', _, x1, fits _ hl, clo _ _ hl B x1.got, fun mm => ?_⟩
    rw [he, j275]
    exact lim_add 3 fun k => x2 _ k
  have zero : nxt p own i (j : Int) (y.f_height, y.f_tries) = some [] → ((Bad f.Code.length all [] ∧ ∀ K9 k, Z1 f own (j : Int) p K9 (k + 3) all more [] = some false) ∨ ∃ all' more', Go1 f.Code.length all all' more more' [] ∧ ∀ K9 k, Z1 f own (j : Int) p K9 (k + 3) all more [] = K9 all' more') :=
   fun _ => .inr ⟨all, more, ⟨H, fun _ _ h => h, fun _ _ h => .inl h, fun x h => (by simp at h), .inl ⟨rfl, rfl⟩⟩, fun K9 k => by rw [l40_succ]; rfl⟩
  have start : ∀ mm, Z0 f own p K6 (mm + 1) all more (j : Int) = Z0 f own p K6 (mm + 1) all more (j : Int) := fun _ => rfl
  conv at start => intro mm; rhs; rw [Z0, if_pos (lt_pos hj), at_nat, hat, Option.bind_some, at_nat, hga, Option.bind_some, if_neg (show ¬ (!y.f_known) = true by rw [hk]; decide), hmv, Option.bind_some]
  have hnx : nxt p own i (j : Int) (y.f_height, y.f_tries) = nxt p own i (j : Int) (y.f_height, y.f_tries) := rfl
  conv at hnx => rhs; unfold nxt
  simp only at hnx
  by_cases hn : y.f_height < (mv p i).1
  ·rw [if_pos hn] at hnx
   exact .inr ⟨none_no hnx, fun mm => by rw [start, if_pos (by simpa using hn)]⟩
  rw [if_neg hn] at hnx
  have hnd : ¬ decide (y.f_height < (mv p i).1) = true := by simpa using hn
  have hw : wi (wi (y.f_height - (mv p i).1) + (mv p i).2) = y.f_height - (mv p i).1 + (mv p i).2 := by rw [wi_id (n := y.f_height - (mv p i).1) (by omega) (by omega), wi_id (by omega) (by omega)]
  simp only [if_neg hnd, hw, hwk, letIn_eq] at start
  have hup : y.f_height - (mv p i).1 + (mv p i).2 ≤ y.f_height + 1 := by omega
  generalize hq : y.f_height - (mv p i).1 + (mv p i).2 = q at *
  have ms1 : ∀ (t : Int) (a : Tat), mset ([] : List (Int × Tat)) t a = [(t, a)] := fun _ _ => rfl
  have ms2 : ∀ (t t' : Int) (a a' : Tat), t' ≠ t → mset [(t, a)] t' a' = [(t, a), (t', a')] := fun t t' a a' h => by simp [mset, h]
  have ms3 : ∀ (t : Int) (a a' : Tat), mset [(t, a)] t a' = [(t, a')] := fun t a a' => by simp [mset]
  by_cases h9 : i.Do = 9
  ·rw [if_pos h9] at hnx
   exact end_ _ _ hnx (fun mm => by rw [start, if_pos (by simpa using h9), ms1]) (run1 f own (j : Int) p all more i.A (q, y.f_tries) H hc (sma _ hnx))
  rw [if_neg h9] at hnx
  by_cases h10 : i.Do = 10
  ·rw [if_pos h10] at hnx
   have B := sma _ hnx
   by_cases hA : i.A = (j : Int) + 1
   ·have he : ∀ mm, Z0 f own p K6 (mm + 1) all more (j : Int) = Z6 f own (j : Int) p more (Z0 f own p K6 mm) K6 all [((j : Int) + 1, atOf (q, y.f_tries))] :=
     fun mm => by rw [start, if_neg (by simpa using h9), if_pos (by simpa using h10), ms1, hA, ms3]
    refine end_ _ _ hnx he ?_
    rcases run1 f own (j : Int) p all more ((j : Int) + 1) (q, y.f_tries) H hc (fun x hx => B x (by simp at hx; simp [hx])) with ⟨x1, x2⟩ | ⟨all', more', x1, x2⟩
    ·obtain ⟨x, hx, z⟩ := x1
     exact .inl ⟨⟨x, by simp at hx; simp [hx], z⟩, x2⟩
    ·exact .inr ⟨all', more', ⟨x1.inv, x1.old, fun t s h => (x1.new t s h).imp id fun h => by simp at h; simp [h], fun x hx => x1.got x (by rw [hA] at hx; simp at hx; simp [hx]), x1.ch⟩, x2⟩
   ·exact end_ _ _ hnx (fun mm => by rw [start, if_neg (by simpa using h9), if_pos (by simpa using h10), ms1, ms2 _ _ _ _ (Ne.symm hA)]) (run2 f own (j : Int) p all more i.A ((j : Int) + 1) (q, y.f_tries) (q, y.f_tries) hA H hc B)
  rw [if_neg h10] at hnx
  by_cases h24 : i.Do = 24
  ·rw [if_pos h24] at hnx
   have hyy : y = atOf (y.f_height, y.f_tries) := tat_eta hk
   by_cases hA : i.A = (j : Int) + 1
   ·refine .inr ⟨fun L G F => ?_, fun mm => by rw [start, if_neg (by simpa using h9), if_neg (by simpa using h10), if_pos (by simpa using h24), if_pos (by simpa using hA)]⟩
    have z := fits _ hnx L G F
    have z1 := z _ List.mem_cons_self
    have z2 := z ((j : Int) + 1, (q, y.f_tries)) (by simp)
    simp only at z1 z2
    rw [hA, z2] at z1
    have := congrArg Prod.fst (Option.some.inj z1)
    simp only at this
    rw [← hq] at this
    unfold mv at this
    simp [h24] at this
    omega
   ·exact end_ _ _ hnx (fun mm => by rw [start, if_neg (by simpa using h9), if_neg (by simpa using h10), if_pos (by simpa using h24), if_neg (by simpa using hA), ms1, ms2 _ _ _ _ (Ne.symm hA), ← hyy]) (run2 f own (j : Int) p all more i.A ((j : Int) + 1) (y.f_height, y.f_tries) (q, y.f_tries) hA H hc (sma _ hnx))
  rw [if_neg h24] at hnx
  unfold Z1v at start
  simp only [hw, hwk, letIn_eq, hq] at start
  by_cases h18 : i.Do = 18 ∨ i.Do = 25
  ·rw [if_pos h18] at hnx
   have st : ∀ mm, Z0 f own p K6 (mm + 1) all more (j : Int) = if ((decide (0 < (y.f_tries.length : Int))) || (!((decide (i.Do = 25) == decide (own = 0)) && true))) then some false else Z6 f own (j : Int) p more (Z0 f own p K6 mm) K6 all [] := by
    intro mm
    rw [start, if_neg (by simpa using h9), if_neg (by simpa using h10), if_neg (by simpa using h24)]
    rcases h18 with h | h
    ·rw [if_pos (by simpa using h), if_pos (by simpa using h)]
    ·rw [if_neg (by simp [h]), if_pos (by simpa using h)]
   have hb : ((decide (0 < (y.f_tries.length : Int))) || (!((decide (i.Do = 25) == decide (own = 0)) && true))) = true ↔ (y.f_tries ≠ [] ∨ ¬ (i.Do = 25 ↔ own = 0)) := by
    have hne : (0 < (y.f_tries.length : Int)) ↔ y.f_tries ≠ [] := by
     rw [← List.length_pos_iff]
     omega
    rw [(decide_eq_decide.2 hne : decide (0 < (y.f_tries.length : Int)) = decide (y.f_tries ≠ []))]
    by_cases z1 : y.f_tries = [] <;> by_cases z2 : i.Do = 25 <;> by_cases z3 : own = 0 <;> simp [z1, z2, z3]
   by_cases hz : y.f_tries ≠ [] ∨ ¬ (i.Do = 25 ↔ own = 0)
   ·rw [if_pos hz] at hnx
    exact .inr ⟨none_no hnx, fun mm => by rw [st, if_pos (hb.2 hz)]⟩
   ·rw [if_neg hz] at hnx
    exact end_ _ _ hnx (fun mm => by rw [st, if_neg (fun h => hz (hb.1 h))]) (zero hnx)
  rw [if_neg h18] at hnx
  have n18 : ¬ decide (i.Do = 18) = true := by simp only [decide_eq_true_eq]; exact fun h => h18 (.inl h)
  have n25 : ¬ decide (i.Do = 25) = true := by simp only [decide_eq_true_eq]; exact fun h => h18 (.inr h)
  simp only [if_neg n18, if_neg n25, if_neg (show ¬ decide (i.Do = 9) = true by simpa using h9), if_neg (show ¬ decide (i.Do = 10) = true by simpa using h10), if_neg (show ¬ decide (i.Do = 24) = true by simpa using h24)] at start
  by_cases h19 : i.Do = 19
  ·rw [if_pos h19] at hnx
   exact end_ _ _ hnx (fun mm => by rw [start, if_pos (by simpa using h19)]) (zero hnx)
  rw [if_neg h19] at hnx
  simp only [if_neg (show ¬ decide (i.Do = 19) = true by simpa using h19)] at start
  by_cases h20 : i.Do = 20
  ·rw [if_pos h20] at hnx
   by_cases hA : i.A = (j : Int) + 1
   ·refine .inr ⟨fun L G F => ?_, fun mm => by rw [start, if_pos (by simpa using h20), if_pos (by simpa using hA)]⟩
    have z := fits _ hnx L G F
    have z1 := z _ List.mem_cons_self
    have z2 := z ((j : Int) + 1, (q, ⟨i.A, y.f_height⟩ :: y.f_tries)) (by simp)
    simp only at z1 z2
    rw [hA, z2] at z1
    have := congrArg (fun s : Sx => s.2.length) (Option.some.inj z1)
    simp at this
   ·exact end_ _ _ hnx (fun mm => by
     rw [start, if_pos (by simpa using h20), if_neg (by simpa using hA), appq (by simp; omega), Option.bind_some, ms1, ms2 _ _ _ _ (Ne.symm hA), wi_id (by omega) (by omega)]
     rfl) (run2 f own (j : Int) p all more i.A ((j : Int) + 1) (y.f_height + 1, y.f_tries) (q, ⟨i.A, y.f_height⟩ :: y.f_tries) hA H hc (sma _ hnx))
  rw [if_neg h20] at hnx
  simp only [if_neg (show ¬ decide (i.Do = 20) = true by simpa using h20)] at start
  by_cases h21 : i.Do = 21
  ·rw [if_pos h21] at hnx
   simp only [if_pos (show decide (i.Do = 21) = true by simpa using h21)] at start
   cases hs : y.f_tries with
   | nil =>
    simp only [hs] at hnx start
    exact .inr ⟨by rw [hs] at none_no; exact none_no hnx, fun mm => by rw [start, if_pos (by simp)]⟩
   | cons z r =>
    simp only [hs] at hnx start
    rw [hs] at end_ sma
    have hsub : sub? (z :: r) 1 (((z :: r).length : Nat) : Int) = some r := by
     have := sub_drop (l := z :: r) (a := 1) (by simp)
     simpa using this
    exact end_ _ _ hnx (fun mm => by rw [start, if_neg (by simp; omega), hsub, Option.bind_some, ms1]) (run1 f own (j : Int) p all more ((j : Int) + 1) (q, r) H hc (sma _ hnx))
  rw [if_neg h21] at hnx
  simp only [if_neg (show ¬ decide (i.Do = 21) = true by simpa using h21)] at start
  exact end_ _ _ hnx (fun mm => by rw [start, ms1]) (run1 f own (j : Int) p all more ((j : Int) + 1) (q, y.f_tries) H hc (sma _ hnx))
 ·refine .inl ⟨all, more, [], ⟨H, fun _ _ h => h, fun _ _ h => .inl h, fun x h => by simp at h, .inl ⟨rfl, rfl⟩⟩, fun L G F x h => by simp at h, fun s h => ?_, fun mm => ?_⟩
  ·rw [hga] at h
   cases h
   simp at hk
  ·rw [Z0, if_pos (lt_pos hj), at_nat, hat, Option.bind_some, at_nat, hga, Option.bind_some, if_pos (by simpa using hk)]
   unfold Z1b
   rw [hwk, hwj]
end
end Go.Proofs.YtolmbcngghkfiaaDoorBv
/- A function is right, by the document: till nothing more is known. No program is in sight. -/
namespace Go.Proofs.YtolmbcngghkfiaaDoorBv
open Go
set_option linter.unusedSimpArgs false
set_option linter.unusedVariables false
section
variable {p : TJProg} {f : TJFunc} {own : Int}
theorem Cl.good (all : List Tat) (H : AInv f.Code.length all) (hz : all[0]? = some (atOf (0, []))) (C : ∀ j s, all[j]? = some (atOf s) → Cl p f own all j s) : ∃ L, Good p f own L := by
 let L : Int → Option Sx := fun t => if 0 ≤ t then match all[t.toNat]? with
  | some a => if a.f_known then some (a.f_height, a.f_tries) else none
  | none => none
  else none
 have hL : ∀ (t : Int) s, 0 ≤ t → all[t.toNat]? = some (atOf s) → L t = some s := by
  intro t s h0 h
  show (if 0 ≤ t then _ else _) = _
  rw [if_pos h0, h]
  rfl
 have hL' : ∀ (t : Int) s, L t = some s → 0 ≤ t ∧ all[t.toNat]? = some (atOf s) := by
  intro t s h
  by_cases h0 : 0 ≤ t
  ·refine ⟨h0, ?_⟩
   change (if 0 ≤ t then _ else _) = _ at h
   rw [if_pos h0] at h
   cases hg : all[t.toNat]? with
   | none => rw [hg] at h; cases h
   | some a =>
    rw [hg] at h
    simp only at h
    split at h
    ·rename_i hk
     cases h
     exact congrArg some (tat_eta hk)
    ·cases h
  ·have : L t = none := if_neg h0
   rw [this] at h
   cases h
 refine ⟨L, hL 0 _ (by omega) hz, fun t s h => ?_⟩
 obtain ⟨h0, h⟩ := hL' t s h
 obtain ⟨i, l, x1, x2, x3⟩ := C _ s h
 have := (H.kn _ _ h).1
 rw [show ((t.toNat : Nat) : Int) = t by omega] at x2
 exact ⟨h0, by omega, i, l, x1, x2, fun x hx => hL _ _ (x3 x hx).1 (x3 x hx).2.2⟩
/-- a pass -/
theorem pass_eq (S : Sm p f) (IO : ∀ i, i ∈ f.Code → InsOK p f i) (all0 : List Tat) (K6 : List Tat → Bool → Option Bool) (H : AInv f.Code.length all0) (hz : all0[0]? = some (atOf (0, []))) (F : ∀ L, Good p f own L → AFit L all0) :
  (∃ all more, AInv f.Code.length all ∧ all[0]? = some (atOf (0, [])) ∧ (∀ L, Good p f own L → AFit L all) ∧ ((more = false ∧ ∃ L, Good p f own L) ∨ (more = true ∧ cn all < cn all0)) ∧ (lim fun kk => Z0 f own p K6 kk all0 false 0) = K6 all more) ∨
  ((¬ ∃ L, Good p f own L) ∧ (lim fun kk => Z0 f own p K6 kk all0 false 0) = some false) := by
 have hc := S.code
 have R := rounds_lim (σ := List Tat × Bool) (fun k s v => Z0 f own p K6 k s.1 s.2 v) (fun s => K6 s.1 s.2) f.Code.length
  (fun i s => AInv f.Code.length s.1 ∧ s.1[0]? = some (atOf (0, [])) ∧ (∀ L, Good p f own L → AFit L s.1) ∧ ((s.2 = false ∧ s.1 = all0 ∧ ∀ (j : Nat) (x : Sx), j < i → all0[j]? = some (atOf x) → Cl p f own all0 j x) ∨ (s.2 = true ∧ cn s.1 < cn all0)))
  (fun v => v = some false ∧ ¬ ∃ L, Good p f own L) (all0, false) ⟨H, hz, F, .inl ⟨rfl, rfl, fun j x h => by omega⟩⟩
  (fun m s _ => by rw [Z0, if_neg (lt_neg _)])
  (fun s i hi hI => by
   obtain ⟨all, more⟩ := s
   obtain ⟨i1, i2, i3, i4⟩ := hI
   simp only at i1 i2 i3 i4
   rcases pass_step (own := own) (K6 := K6) S IO all more i hi i1 with ⟨all', more', l, g, h1, h2, h3⟩ | ⟨h1, h2⟩
   ·refine .inl ⟨(all', more'), ⟨g.inv, g.old _ _ i2, fun L G => fit_go (i3 L G) g (h1 L G (i3 L G)), ?_⟩, h3⟩
    rcases g.ch with ⟨c1, c2⟩ | ⟨c1, c2⟩
    ·simp only
     rw [c1, c2]
     rcases i4 with ⟨d1, d2, d3⟩ | d
     ·refine .inl ⟨d1, d2, fun j x hj hx => ?_⟩
      by_cases e : j = i
      ·subst e
       have := h2 x (by rw [d2]; exact hx)
       rwa [c2, d2] at this
      ·exact d3 j x (by omega) hx
     ·exact .inr d
    ·refine .inr ⟨c1, ?_⟩
     rcases i4 with ⟨_, d2, _⟩ | d
     ·simp only; rw [d2] at c2; exact c2
     ·simp only; omega
   ·exact .inr ⟨_, ⟨rfl, fun ⟨L, G⟩ => h1 L G (i3 L G)⟩, h2⟩)
 rcases R with ⟨⟨all, more⟩, ⟨i1, i2, i3, i4⟩, h⟩ | ⟨v, ⟨rfl, h1⟩, h2⟩
 ·simp only at i1 i2 i3 i4 h
  refine .inl ⟨all, more, i1, i2, i3, ?_, h⟩
  rcases i4 with ⟨d1, d2, d3⟩ | d
  ·exact .inl ⟨d1, Cl.good all0 H hz fun j s hs => d3 j s (H.kn j s hs).1 hs⟩
  ·exact .inr d
 ·exact .inr ⟨h1, h2⟩
open Classical in
theorem l30_run (S : Sm p f) (IO : ∀ i, i ∈ f.Code → InsOK p f i) (K4 : Unit → Option Bool) : ∀ (m : Nat) (all : List Tat), cn all ≤ m → AInv f.Code.length all → all[0]? = some (atOf (0, [])) → (∀ L, Good p f own L → AFit L all) →
  ∀ k, Z7 f own p K4 (k + m + 2) all true = if (∃ L, Good p f own L) then K4 () else some false := by
 intro m
 induction m with
 | zero =>
  intro all hm H hz F k
  rw [show k + 0 + 2 = (k + 1) + 1 by omega, Z7, if_pos rfl]
  rcases pass_eq (own := own) S IO all (fun (all_2 : (List Tat)) (more2 : Bool) => (Z7 f own p K4 (k + 1)) all_2 more2) H hz F with ⟨all', more', i1, i2, i3, i4, h⟩ | ⟨h1, h2⟩
  ·rw [h]
   rcases i4 with ⟨rfl, d⟩ | ⟨_, d⟩
   ·rw [if_pos d, Z7, if_neg Bool.false_ne_true]
   ·omega
  ·rw [h2, if_neg h1]
 | succ m ih =>
  intro all hm H hz F k
  rw [show k + (m + 1) + 2 = (k + m + 2) + 1 by omega, Z7, if_pos rfl]
  rcases pass_eq (own := own) S IO all (fun (all_2 : (List Tat)) (more2 : Bool) => (Z7 f own p K4 (k + m + 2)) all_2 more2) H hz F with ⟨all', more', i1, i2, i3, i4, h⟩ | ⟨h1, h2⟩
  ·rw [h]
   rcases i4 with ⟨rfl, d⟩ | ⟨rfl, d⟩
   ·rw [if_pos d, Z7, if_neg Bool.false_ne_true]
   ·exact ih all' (by omega) i1 i2 i3 k
  ·rw [h2, if_neg h1]
/-- what a function's instructions name, by the document -/
theorem mapB_eq (d : Int) (h1 : 1 ≤ d) (h2 : d ≤ 25) : (if (mget (mset (mset (mset (mset (mset (mset (mset (mset (mset (mset (mset (mset (mset (mset (mset ([] : List (Int × Int)) 1 (p.Consts.length : Int)) 2 f.Slots) 3 f.Slots) 4 f.Slots) 5 f.Slots) 7 2) 8 11) 9 (f.Code.length : Int)) 10 (f.Code.length : Int)) 12 401) 13 (p.Shapes.length : Int)) 16 (p.Funcs.length : Int)) 17 401) 20 (f.Code.length : Int)) 24 (f.Code.length : Int)) d).isSome then (mget (mset (mset (mset (mset (mset (mset (mset (mset (mset (mset (mset (mset (mset (mset (mset ([] : List (Int × Int)) 1 (p.Consts.length : Int)) 2 f.Slots) 3 f.Slots) 4 f.Slots) 5 f.Slots) 7 2) 8 11) 9 (f.Code.length : Int)) 10 (f.Code.length : Int)) 12 401) 13 (p.Shapes.length : Int)) 16 (p.Funcs.length : Int)) 17 401) 20 (f.Code.length : Int)) 24 (f.Code.length : Int)) d).getD 0 else 1) = boundN p f d := by
 have hd : d = 1 ∨ d = 2 ∨ d = 3 ∨ d = 4 ∨ d = 5 ∨ d = 6 ∨ d = 7 ∨ d = 8 ∨ d = 9 ∨ d = 10 ∨ d = 11 ∨ d = 12 ∨ d = 13 ∨ d = 14 ∨ d = 15 ∨ d = 16 ∨ d = 17 ∨ d = 18 ∨ d = 19 ∨ d = 20 ∨ d = 21 ∨ d = 22 ∨ d = 23 ∨ d = 24 ∨ d = 25 := by omega
 simp only [mset, Int.reduceEq, if_false]
 rcases hd with rfl | rfl | rfl | rfl | rfl | rfl | rfl | rfl | rfl | rfl | rfl | rfl | rfl | rfl | rfl | rfl | rfl | rfl | rfl | rfl | rfl | rfl | rfl | rfl | rfl <;> simp [mget, boundN]
theorem boundN_b (S : Sm p f) (h0 : 0 ≤ f.Slots) (d : Int) : 0 ≤ boundN p f d ∧ boundN p f d ≤ 8000 := by
 have := S.code; have := S.slots; have := S.fs; have := S.cs; have := S.ss
 unfold boundN
 split <;> (try split) <;> (try split) <;> (try split) <;> (try split) <;> (try split) <;> (try split) <;> (try split) <;> omega
theorem caught2 (x2 : TJFunc) (v82 : Int) (mp : List (Int × Int)) (x1 : TJIns) (K2 : Unit → Option Bool) (h0 : 0 ≤ f.Slots) (h4 : f.Slots ≤ 400) (hn : x2.Caught.length ≤ 140737488355328) :
  ((∀ s, s ∈ x2.Caught → 0 ≤ s ∧ s < f.Slots) ∧ (lim fun kk => Z9 x2 f own v82 p mp x1 K2 kk 0) = K2 ()) ∨
  ((¬ ∀ s, s ∈ x2.Caught → 0 ≤ s ∧ s < f.Slots) ∧ (lim fun kk => Z9 x2 f own v82 p mp x1 K2 kk 0) = some false) := by
 have R := rounds_lim (σ := Unit) (fun k _ v => Z9 x2 f own v82 p mp x1 K2 k v) (fun _ => K2 ()) x2.Caught.length
  (fun i _ => ∀ s, s ∈ x2.Caught.take i → 0 ≤ s ∧ s < f.Slots) (fun v => v = some false ∧ ¬ ∀ s, s ∈ x2.Caught → 0 ≤ s ∧ s < f.Slots) () (by simp)
  (fun m s _ => by rw [Z9, if_neg (lt_neg _)])
  (fun s i hi hI => by
   have hb : ∀ z : Int, (!(Z3 z 0 (wi (f.Slots - 1)))) = true ↔ ¬ (0 ≤ z ∧ z < f.Slots) := by
    intro z
    unfold Z3
    rw [wi_id (by omega) (by omega)]
    simp only [Bool.not_eq_true', Bool.and_eq_false_iff, decide_eq_false_iff_not]
    omega
   by_cases hc : 0 ≤ x2.Caught[i] ∧ x2.Caught[i] < f.Slots
   ·refine .inl ⟨(), fun s hs => ?_, fun m => ?_⟩
    ·rw [take_succ_get hi, List.mem_append, List.mem_singleton] at hs
     rcases hs with hs | rfl
     ·exact hI s hs
     ·exact hc
    ·rw [Z9, if_pos (lt_pos hi), at_some hi, Option.bind_some, if_neg (fun h => (hb _).1 h hc), wi_next hi (by omega)]
   ·refine .inr ⟨_, ⟨rfl, fun h => hc (h _ (List.getElem_mem hi))⟩, fun m => ?_⟩
    rw [Z9, if_pos (lt_pos hi), at_some hi, Option.bind_some, if_pos ((hb _).2 hc)])
 rcases R with ⟨_, h1, h2⟩ | ⟨v, ⟨rfl, h1⟩, h2⟩
 ·rw [take_all] at h1
  exact .inl ⟨h1, h2⟩
 ·exact .inr ⟨h1, h2⟩
theorem form2 (S : Sm p f) (h0 : 0 ≤ f.Slots) (mp : List (Int × Int)) (hmp : ∀ d, 1 ≤ d → d ≤ 25 → (if (mget mp d).isSome then (mget mp d).getD 0 else 1) = boundN p f d) (K0 : Unit → Option Bool) :
  ((∀ s, s ∈ f.Code → InsOK p f s) ∧ (lim fun kk => Z2 f mp p own K0 kk 0) = K0 ()) ∨ ((¬ ∀ s, s ∈ f.Code → InsOK p f s) ∧ (lim fun kk => Z2 f mp p own K0 kk 0) = some false) := by
 have hc := S.code
 have R := rounds_lim (σ := Unit) (fun k _ v => Z2 f mp p own K0 k v) (fun _ => K0 ()) f.Code.length
  (fun i _ => ∀ s, s ∈ f.Code.take i → InsOK p f s) (fun v => v = some false ∧ ¬ ∀ s, s ∈ f.Code → InsOK p f s) () (by simp)
  (fun m s _ => by rw [Z2, if_neg (lt_neg _)])
  (fun s i hi hI => by
   generalize hx : f.Code[i] = x
   have hmem : x ∈ f.Code := hx ▸ List.getElem_mem hi
   have hgo : ∀ m, Z2 f mp p own K0 (m + 1) (i : Int) = Zt x p f own (i : Int) mp (Z2 f mp p own K0 m) K0 (if (mget mp x.Do).isSome then (mget mp x.Do).getD 0 else 1) := by
    intro m
    rw [Z2, if_pos (lt_pos hi), at_some hi, Option.bind_some, hx]
    by_cases h : (mget mp x.Do).isSome = true
    ·rw [if_neg (by simp [h]), if_pos h]
    ·rw [if_pos (by simpa using h), if_neg h]
   have hnext : ∀ m, Z1a (i : Int) own f p mp (Z2 f mp p own K0 m) K0 = Z2 f mp p own K0 m ((i + 1 : Nat) : Int) := by
    intro m
    unfold Z1a
    rw [wi_next hi (by omega)]
   by_cases hd : 1 ≤ x.Do ∧ x.Do ≤ 25
   ·rw [hmp _ hd.1 hd.2] at hgo
    have hB := boundN_b S h0 x.Do
    have hcnd : ((!(Z3 x.Do 1 25)) || (!(Z3 x.A 0 (wi (boundN p f x.Do - 1))))) = true ↔ ¬ (0 ≤ x.A ∧ x.A < boundN p f x.Do) := by
     unfold Z3
     rw [wi_id (by omega) (by omega)]
     simp only [Bool.or_eq_true, Bool.not_eq_true', Bool.and_eq_false_iff, decide_eq_false_iff_not]
     omega
    by_cases hA : 0 ≤ x.A ∧ x.A < boundN p f x.Do
    ·have hcn : ¬ ((!(Z3 x.Do 1 25)) || (!(Z3 x.A 0 (wi (boundN p f x.Do - 1))))) = true := fun h => hcnd.1 h hA
     by_cases h16 : x.Do = 16
     ·have q5 : x.A < (p.Funcs.length : Int) := by
       have := hA.2
       rw [h16] at this
       unfold boundN at this
       simpa using this
      have q6 : x.A.toNat < p.Funcs.length := by omega
      have hat : at? p.Funcs x.A = some p.Funcs[x.A.toNat] := by
       rw [at_of hA.1]; exact List.getElem?_eq_getElem q6
      have hgo2 : ∀ m, Z2 f mp p own K0 (m + 1) (i : Int) = lim fun kk => Z9 p.Funcs[x.A.toNat] f own (i : Int) p mp x (fun (_ : Unit) => if decide (x.A = 0) then some false else Z2 f mp p own K0 m ((i + 1 : Nat) : Int)) kk 0 := by
       intro m
       rw [hgo]
       unfold Zt
       rw [if_neg hcn, if_pos (by simpa using h16), hat, Option.bind_some, hnext]
      by_cases hca : ∀ s, s ∈ (p.Funcs[x.A.toNat]).Caught → 0 ≤ s ∧ s < f.Slots
      ·have hgo3 : ∀ m, Z2 f mp p own K0 (m + 1) (i : Int) = if decide (x.A = 0) then some false else Z2 f mp p own K0 m ((i + 1 : Nat) : Int) := by
        intro m
        rw [hgo2]
        rcases caught2 (own := own) (p := p) p.Funcs[x.A.toNat] (i : Int) mp x (fun (_ : Unit) => if decide (x.A = 0) then some false else Z2 f mp p own K0 m ((i + 1 : Nat) : Int)) h0 S.slots (S.all _ (List.getElem_mem q6)) with ⟨_, z⟩ | ⟨z, _⟩
        ·exact z
        ·exact absurd hca z
       by_cases hz : x.A = 0
       ·exact .inr ⟨_, ⟨rfl, fun h => ((h x hmem).fn h16).1 hz⟩, fun m => by rw [hgo3, if_pos (by simpa using hz)]⟩
       ·refine .inl ⟨(), fun s hs => ?_, fun m => by rw [hgo3, if_neg (by simpa using hz)]⟩
        rw [take_succ_get hi, List.mem_append, List.mem_singleton, hx] at hs
        rcases hs with hs | rfl
        ·exact hI s hs
        ·refine ⟨hd.1, hd.2, hA.1, hA.2, fun _ => ⟨hz, fun g hg s hs => ?_⟩⟩
         rw [List.getElem?_eq_getElem q6] at hg
         cases hg
         exact hca s hs
      ·refine .inr ⟨_, ⟨rfl, fun h => hca (((h x hmem).fn h16).2 _ (List.getElem?_eq_getElem q6))⟩, fun m => ?_⟩
       rw [hgo2]
       rcases caught2 (own := own) (p := p) p.Funcs[x.A.toNat] (i : Int) mp x (fun (_ : Unit) => if decide (x.A = 0) then some false else Z2 f mp p own K0 m ((i + 1 : Nat) : Int)) h0 S.slots (S.all _ (List.getElem_mem q6)) with ⟨z, _⟩ | ⟨_, z⟩
       ·exact absurd z hca
       ·exact z
     ·refine .inl ⟨(), fun s hs => ?_, fun m => ?_⟩
      ·rw [take_succ_get hi, List.mem_append, List.mem_singleton, hx] at hs
       rcases hs with hs | rfl
       ·exact hI s hs
       ·exact ⟨hd.1, hd.2, hA.1, hA.2, fun h => absurd h h16⟩
      ·rw [hgo]
       unfold Zt
       rw [if_neg hcn, if_neg (by simpa using h16), hnext]
    ·refine .inr ⟨_, ⟨rfl, fun h => hA ⟨(h x hmem).a1, (h x hmem).a2⟩⟩, fun m => ?_⟩
     rw [hgo]
     unfold Zt
     rw [if_pos (hcnd.2 hA)]
   ·refine .inr ⟨_, ⟨rfl, fun h => hd ⟨(h x hmem).d1, (h x hmem).d2⟩⟩, fun m => ?_⟩
    rw [hgo]
    unfold Zt
    rw [if_pos]
    unfold Z3
    simp only [Bool.or_eq_true, Bool.not_eq_true', Bool.and_eq_false_iff, decide_eq_false_iff_not]
    omega)
 rcases R with ⟨_, h1, h2⟩ | ⟨v, ⟨rfl, h1⟩, h2⟩
 ·rw [take_all] at h1
  exact .inl ⟨h1, h2⟩
 ·exact .inr ⟨h1, h2⟩
theorem func_eq (n : Nat) (hn : p.Funcs[n]? = some f) (S : Sm p f) : ∃ b, Z1w p (n : Int) = some b ∧ (b = true ↔ HeadOK f ∧ (∀ i, i ∈ f.Code → InsOK p f i) ∧ ∃ L, Good p f (n : Int) L) := by
 have hc := S.code
 have s2 := S.slots
 have s3 := S.slots0
 have s4 := S.caught
 unfold Z1w
 rw [at_nat, hn, Option.bind_some]
 by_cases hh : HeadOK f ∧ f.Code.length ≠ 0
 ·obtain ⟨hh, hl⟩ := hh
  have hh' := hh
  unfold HeadOK at hh'
  rw [if_neg (by rw [wi_id (by omega) (by omega)]; simp only [Bool.or_eq_true, decide_eq_true_eq]; omega)]
  simp only [letIn_eq]
  have hf : ∀ K0 : Unit → Option Bool, _ := fun K0 => form2 (own := (n : Int)) S hh'.2.1 _ (fun d h1 h2 => mapB_eq (p := p) (f := f) d h1 h2) K0
  rw [wi_id (n := (f.Code.length : Int) + 1) (by omega) (by omega)]
  rcases hf (fun (_ : Unit) => 
    (mkl? 40 ((f.Code.length : Int) + 1) ((f.Code.length : Int) + 1) ((⟨false, 0, []⟩ : Tat) : Tat)).bind fun row =>
    (at? row 0).bind fun x_4 =>
    lim fun kk3 => Z7 f (n : Int) p (fun (_ : Unit) => 
      some true) kk3 (row.set (0 : Int).toNat (⟨true, x_4.f_height, x_4.f_tries⟩ : Tat)) true) with ⟨h1, h2⟩ | ⟨h1, h2⟩
  ·rw [h2, mkl_some (by omega) (by omega) (by omega) (by omega), Option.bind_some]
   have e : ((f.Code.length : Int) + 1).toNat = f.Code.length + 1 := by omega
   rw [e]
   have e0 : at? (List.replicate (f.Code.length + 1) (⟨false, 0, []⟩ : Tat)) 0 = some (⟨false, 0, []⟩ : Tat) := rfl
   rw [e0, Option.bind_some]
   simp only
   have hset : (List.replicate (f.Code.length + 1) (⟨false, 0, []⟩ : Tat)).set (0 : Int).toNat (⟨true, 0, []⟩ : Tat) = atOf (0, []) :: List.replicate f.Code.length (⟨false, 0, []⟩ : Tat) := rfl
   rw [hset]
   have hcn : cn (atOf (0, []) :: List.replicate f.Code.length (⟨false, 0, []⟩ : Tat)) = f.Code.length := by
    unfold cn
    rw [List.countP_cons]
    simp [List.countP_replicate]
   have hget : ∀ (t : Nat) (s : Sx), (atOf (0, []) :: List.replicate f.Code.length (⟨false, 0, []⟩ : Tat))[t]? = some (atOf s) → t = 0 ∧ s = (0, []) := by
    intro t s h
    cases t with
    | zero =>
     simp only [List.getElem?_cons_zero] at h
     exact ⟨rfl, (atOf_inj (Option.some.inj h)).symm⟩
    | succ t =>
     simp only [List.getElem?_cons_succ, List.getElem?_replicate] at h
     split at h
     ·cases h
     ·cases h
   have R := l30_run (own := (n : Int)) S h1 (fun _ => some true) f.Code.length _ (Nat.le_of_eq hcn) ⟨by simp, fun t s h => by
    obtain ⟨rfl, rfl⟩ := hget t s h
    rw [hcn]
    exact ⟨by omega, by simp, by simp; omega, by simp⟩⟩ rfl (fun L G t s h => by
    obtain ⟨rfl, rfl⟩ := hget t s h
    exact G.1)
   rw [lim_add (f.Code.length + 2) fun k => R k]
   by_cases hG : ∃ L, Good p f (n : Int) L
   ·rw [if_pos hG]
    exact ⟨true, rfl, by simp only [true_iff]; exact ⟨hh, h1, hG⟩⟩
   ·rw [if_neg hG]
    exact ⟨false, rfl, by simp only [Bool.false_eq_true, false_iff]; exact fun h => hG h.2.2⟩
  ·rw [h2]
   exact ⟨false, rfl, by simp only [Bool.false_eq_true, false_iff]; exact fun h => h1 h.2.1⟩
 ·refine ⟨false, ?_, by
   simp only [Bool.false_eq_true, false_iff]
   rintro ⟨h1, h2, L, G⟩
   refine hh ⟨h1, fun h => ?_⟩
   have := (G.2 _ _ G.1).2.1
   omega⟩
  rw [if_pos]
  unfold HeadOK at hh
  by_cases h0 : f.Slots < 0
  ·simp [h0]
  ·rw [wi_id (by omega) (by omega)]
   simp only [Bool.or_eq_true, decide_eq_true_eq]
   omega
end
end Go.Proofs.YtolmbcngghkfiaaDoorBv
/- code.Check: the program's answer is the document's. No program is in sight. -/
namespace Go.Proofs.YtolmbcngghkfiaaDoorBv
open Go
set_option linter.unusedSimpArgs false
set_option linter.unusedVariables false
def Big (g : TJFunc) : Prop := 8000 < g.Code.length ∨ 400 < g.Slots
def RightAt (p : TJProg) (j : Nat) : Prop := ∃ f, p.Funcs[j]? = some f ∧ HeadOK f ∧ (∀ i, i ∈ f.Code → InsOK p f i) ∧ ∃ L, Good p f (j : Int) L
theorem sm_of {p : TJProg} (h : ok26 p) (h1 : p.Funcs.length ≤ 400) (h2 : p.Consts.length ≤ 400) (h3 : p.Shapes.length ≤ 400) (hb : ∀ g, g ∈ p.Funcs → ¬ Big g) {f : TJFunc} (hf : f ∈ p.Funcs) : Sm p f := by
 have hr : reachBytes ≤ 140737488355328 := by unfold reachBytes; omega
 have b := hb f hf
 unfold Big at b
 have o := h.1.2 f hf
 have o2 := ok_i64 o.2.1
 exact ⟨by omega, by omega, by omega, Nat.le_trans o.2.2.1.1 hr, h1, h2, h3, fun g hg => Nat.le_trans (h.1.2 g hg).2.2.1.1 hr, fun s hs => Nat.le_trans (h.2.2.2 s hs).1 hr⟩
theorem big_dec (g : TJFunc) : ((decide (8000 < (g.Code.length : Int))) || (decide (400 < g.Slots))) = true ↔ Big g := by
 unfold Big
 simp only [Bool.or_eq_true, decide_eq_true_eq]
 omega
/-- the program's look at the sizes -/
theorem check_l0 (p : TJProg) (K : Unit → Option Int) (hl : p.Funcs.length ≤ 140737488355328) : ((∀ g, g ∈ p.Funcs → ¬ Big g) ∧ (lim fun kk => Z8 p K kk 0) = K ()) ∨ ((∃ g, g ∈ p.Funcs ∧ Big g) ∧ (lim fun kk => Z8 p K kk 0) = some 2) := by
 have R := rounds_lim (σ := Unit) (fun k _ v => Z8 p K k v) (fun _ => K ()) p.Funcs.length (fun i _ => ∀ g, g ∈ p.Funcs.take i → ¬ Big g) (fun v => v = some 2 ∧ ∃ g, g ∈ p.Funcs ∧ Big g) () (by simp)
  (fun m s _ => by rw [Z8, if_neg (lt_neg _)])
  (fun s i hi hI => by
   by_cases hb : Big p.Funcs[i]
   ·exact .inr ⟨_, ⟨rfl, _, List.getElem_mem hi, hb⟩, fun m => by rw [Z8, if_pos (lt_pos hi), at_some hi, Option.bind_some, if_pos ((big_dec _).2 hb)]⟩
   ·refine .inl ⟨(), fun g hg => ?_, fun m => by rw [Z8, if_pos (lt_pos hi), at_some hi, Option.bind_some, if_neg (fun h => hb ((big_dec _).1 h)), wi_next hi (by omega)]⟩
    rw [take_succ_get hi, List.mem_append, List.mem_singleton] at hg
    rcases hg with hg | rfl
    ·exact hI g hg
    ·exact hb)
 rcases R with ⟨_, h1, h2⟩ | ⟨v, ⟨rfl, h1⟩, h2⟩
 ·rw [take_all] at h1
  exact .inl ⟨h1, h2⟩
 ·exact .inr ⟨h1, h2⟩
theorem prog_l0 (p : TJProg) (K : Bool → Option Int) (b : Bool) (hl : p.Funcs.length ≤ 140737488355328) : ∃ r, (r = true ↔ b = true ∨ ∃ g, g ∈ p.Funcs ∧ Big g) ∧ (lim fun kk => Zi p K kk b 0) = K r := by
 obtain ⟨r, h1, h2⟩ := rounds_all (σ := Bool) (fun k s v => Zi p K k s v) K p.Funcs.length (fun i r => r = true ↔ b = true ∨ ∃ g, g ∈ p.Funcs.take i ∧ Big g) b (by simp)
  (fun m s _ => by rw [Zi, if_neg (lt_neg _)])
  (fun s i hi hI => by
   refine ⟨((s || (decide (8000 < (p.Funcs[i].Code.length : Int)))) || (decide (400 < p.Funcs[i].Slots))), ?_, fun m => by rw [Zi, if_pos (lt_pos hi), at_some hi, Option.bind_some, wi_next hi (by omega)]⟩
   rw [Bool.or_assoc, Bool.or_eq_true, big_dec, hI, take_succ_get hi]
   constructor
   ·rintro ((h | ⟨g, h1, h2⟩) | h)
    ·exact .inl h
    ·exact .inr ⟨g, List.mem_append_left _ h1, h2⟩
    ·exact .inr ⟨_, List.mem_append_right _ (List.mem_singleton.2 rfl), h⟩
   ·rintro (h | ⟨g, h1, h2⟩)
    ·exact .inl (.inl h)
    ·rcases List.mem_append.1 h1 with h1 | h1
     ·exact .inl (.inr ⟨g, h1, h2⟩)
     ·rw [List.mem_singleton] at h1
      subst h1
      exact .inr h2)
 rw [take_all] at h1
 exact ⟨r, h1, h2⟩
theorem check_l1 (p : TJProg) (hs : ∀ f, f ∈ p.Funcs → Sm p f) (hl : p.Funcs.length ≤ 400) : ((∀ j, j < p.Funcs.length → RightAt p j) ∧ (lim fun kk => Zb p (fun _ => some 0) kk 0) = some 0) ∨ ((∃ j, j < p.Funcs.length ∧ ¬ RightAt p j) ∧ (lim fun kk => Zb p (fun _ => some 0) kk 0) = some 3) := by
 have R := rounds_lim (σ := Unit) (fun k _ v => Zb p (fun _ => some 0) k v) (fun _ => some 0) p.Funcs.length (fun i _ => ∀ j, j < i → RightAt p j) (fun v => v = some 3 ∧ ∃ j, j < p.Funcs.length ∧ ¬ RightAt p j) () (fun j h => by omega)
  (fun m s _ => by rw [Zb, if_neg (lt_neg _)])
  (fun s i hi hI => by
   obtain ⟨b, c', h1, h2⟩ := right_eq p p.Funcs[i] (i : Int) (hs _ (List.getElem_mem hi))
   have hR : RightAt p i ↔ b = true := by
    rw [h2]
    unfold RightAt
    rw [List.getElem?_eq_getElem hi]
    exact ⟨fun ⟨f, hf, h⟩ => by cases hf; exact h, fun h => ⟨_, rfl, h⟩⟩
   cases b with
   | true =>
    refine .inl ⟨(), fun j hj => ?_, fun m => ?_⟩
    ·by_cases e : j = i
     ·rw [e]; exact hR.2 rfl
     ·exact hI j (by omega)
    ·rw [Zb, if_pos (lt_pos hi), at_some hi, Option.bind_some, h1, Option.bind_some, if_neg (by simp), wi_next hi (by omega)]
   | false =>
    refine .inr ⟨_, ⟨rfl, i, hi, fun h => by have := hR.1 h; cases this⟩, fun m => ?_⟩
    rw [Zb, if_pos (lt_pos hi), at_some hi, Option.bind_some, h1, Option.bind_some, if_pos (by simp)])
 rcases R with ⟨_, h1, h2⟩ | ⟨v, ⟨rfl, h1⟩, h2⟩
 ·exact .inl ⟨h1, h2⟩
 ·exact .inr ⟨h1, h2⟩
theorem prog_l1 (p : TJProg) (hs : ∀ f, f ∈ p.Funcs → Sm p f) (hl : p.Funcs.length ≤ 400) : ((∀ j, j < p.Funcs.length → RightAt p j) ∧ (lim fun kk => Zd p (fun _ => some 0) kk 0) = some 0) ∨ ((∃ j, j < p.Funcs.length ∧ ¬ RightAt p j) ∧ (lim fun kk => Zd p (fun _ => some 0) kk 0) = some 3) := by
 have R := rounds_lim (σ := Unit) (fun k _ v => Zd p (fun _ => some 0) k v) (fun _ => some 0) p.Funcs.length (fun i _ => ∀ j, j < i → RightAt p j) (fun v => v = some 3 ∧ ∃ j, j < p.Funcs.length ∧ ¬ RightAt p j) () (fun j h => by omega)
  (fun m s _ => by rw [Zd, if_neg (lt_neg _)])
  (fun s i hi hI => by
   have hg := List.getElem?_eq_getElem hi
   obtain ⟨b, h1, h2⟩ := func_eq i hg (hs _ (List.getElem_mem hi))
   have hR : RightAt p i ↔ b = true := by
    rw [h2]
    unfold RightAt
    rw [hg]
    exact ⟨fun ⟨f, hf, h⟩ => by cases hf; exact h, fun h => ⟨_, rfl, h⟩⟩
   cases b with
   | true =>
    refine .inl ⟨(), fun j hj => ?_, fun m => ?_⟩
    ·by_cases e : j = i
     ·rw [e]; exact hR.2 rfl
     ·exact hI j (by omega)
    ·rw [Zd, if_pos (lt_pos hi), h1, Option.bind_some, if_neg (by simp), wi_next hi (by omega)]
   | false =>
    refine .inr ⟨_, ⟨rfl, i, hi, fun h => by have := hR.1 h; cases this⟩, fun m => ?_⟩
    rw [Zd, if_pos (lt_pos hi), h1, Option.bind_some, if_pos (by simp)])
 rcases R with ⟨_, h1, h2⟩ | ⟨v, ⟨rfl, h1⟩, h2⟩
 ·exact .inl ⟨h1, h2⟩
 ·exact .inr ⟨h1, h2⟩
theorem checks_eq (p : TJProg) (h : ok26 p) : ∃ r, Zx p = some r ∧ Z1y p = some r := by
 have hr : reachBytes ≤ 140737488355328 := by unfold reachBytes; omega
 have hl : p.Funcs.length ≤ 140737488355328 := Nat.le_trans h.1.1 hr
 unfold Zx Z1y
 by_cases hb : 400 < p.Funcs.length ∨ 400 < p.Consts.length ∨ 400 < p.Shapes.length
 ·have hd : (((decide (400 < (p.Funcs.length : Int))) || (decide (400 < (p.Consts.length : Int)))) || (decide (400 < (p.Shapes.length : Int)))) = true := by simp only [Bool.or_eq_true, decide_eq_true_eq]; omega
  rw [if_pos hd, hd]
  obtain ⟨r, h1, h2⟩ := prog_l0 p (fun (large1 : Bool) => 
   if large1 then
    some 2
   else
    if decide ((p.Funcs.length : Int) = 0) then
     Zp p true
    else
     (at? p.Funcs 0).bind fun x_1 =>
     Zp p (!decide (x_1.Params = 0))) true hl
  refine ⟨2, rfl, h2.trans ?_⟩
  rw [if_pos (h1.2 (.inl rfl))]
 ·have hd : (((decide (400 < (p.Funcs.length : Int))) || (decide (400 < (p.Consts.length : Int)))) || (decide (400 < (p.Shapes.length : Int)))) = false := by
   simp only [Bool.or_eq_false_iff, decide_eq_false_iff_not]; omega
  rw [if_neg (by rw [hd]; exact Bool.false_ne_true), hd]
  obtain ⟨r, h1, h2⟩ := prog_l0 p (fun (large1 : Bool) => 
   if large1 then
    some 2
   else
    if decide ((p.Funcs.length : Int) = 0) then
     Zp p true
    else
     (at? p.Funcs 0).bind fun x_1 =>
     Zp p (!decide (x_1.Params = 0))) false hl
  rcases check_l0 p (fun (_ : Unit) => 
    if decide ((p.Funcs.length : Int) = 0) then
     Zw p true
    else
     (at? p.Funcs 0).bind fun x_2 =>
     Zw p (!decide (x_2.Params = 0))) hl with ⟨g1, g2⟩ | ⟨g1, g2⟩
  ·have hrf : r = false := by
    cases r with
    | false => rfl
    | true =>
     rcases h1.1 rfl with h | ⟨g, q1, q2⟩
     ·cases h
     ·exact absurd q2 (g1 g q1)
   rw [hrf, if_neg Bool.false_ne_true] at h2
   rw [g2, h2]
   have hs : ∀ f, f ∈ p.Funcs → Sm p f := fun f hf => sm_of h (by omega) (by omega) (by omega) g1 hf
   have hj : ∀ b, ∃ r, Zw p b = some r ∧ Zp p b = some r := by
    intro b
    unfold Zw Zp
    cases b with
    | true => exact ⟨3, rfl, rfl⟩
    | false =>
     rw [if_neg Bool.false_ne_true, if_neg Bool.false_ne_true]
     rcases check_l1 p hs (by omega) with ⟨a1, a2⟩ | ⟨⟨j, a1, a3⟩, a2⟩ <;> rcases prog_l1 p hs (by omega) with ⟨b1, b2⟩ | ⟨⟨k, b1, b3⟩, b2⟩
     ·exact ⟨0, a2, b2⟩
     ·exact absurd (a1 k b1) b3
     ·exact absurd (b1 j a1) a3
     ·exact ⟨3, a2, b2⟩
   by_cases h0 : p.Funcs.length = 0
   ·rw [if_pos (by simp only [decide_eq_true_eq]; omega), if_pos (by simp only [decide_eq_true_eq]; omega)]
    exact hj true
   ·rw [if_neg (by simp only [decide_eq_true_eq]; omega), if_neg (by simp only [decide_eq_true_eq]; omega)]
    rw [show at? p.Funcs 0 = some (p.Funcs[0]'(by omega)) from at_some (k := 0) (by omega), Option.bind_some, Option.bind_some]
    exact hj _
  ·have hrt : r = true := h1.2 (.inr g1)
   rw [hrt, if_pos rfl] at h2
   exact ⟨2, g2, h2⟩
theorem pureCodeChecks : PureCodeChecks := by
 intro a0 h
 unfold Z2a Z1z
 have he : Zx (⟨[], [], []⟩ : TJProg) = some 3 := by
  unfold Zx
  rw [if_neg (by simp)]
  refine lim_add 1 fun k => ?_
  rw [Z8, if_neg (by simp), if_pos (by simp)]
  rfl
 rw [he, Option.bind_some, if_pos (by decide)]
 obtain ⟨r, h1, h2⟩ := checks_eq a0 h
 rw [h1, h2, Option.bind_some, Option.bind_some, decide_eq_true rfl]
end Go.Proofs.YtolmbcngghkfiaaDoorBv
-- squeezed
