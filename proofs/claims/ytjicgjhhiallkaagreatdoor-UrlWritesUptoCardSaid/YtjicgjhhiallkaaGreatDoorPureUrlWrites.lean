/- The law UrlWrites, over plain values, in parts. No program is in sight. -/
import Derived.Test.YtjicgjhhiallkaaGreatDoorShUrlWrites
import Derived.Test.YtjicgjhhiallkaaGreatDoorBv23
import Derived.Test.YtjicgjhhiallkaaGreatDoorBv44
import Derived.Test.YtjicgjhhiallkaaGreatDoorBv46
import Derived.Test.YtjicgjhhiallkaaGreatDoorBv47
import Derived.Lib.ItoaLen
import Derived.Test.YtjicgjhhiallkaaGreatDoorBv31
/- strings.ToLower of a text of ASCII: letter by letter. No program is in sight. -/
namespace Go.Proofs.YtjicgjhhiallkaaGreatDoorBv
open Go
set_option linter.unusedSimpArgs false
set_option linter.unusedVariables false
def isUp (c : UInt8) : Bool := decide (65 ≤ c.toNat) && decide (c.toNat ≤ 90)
def loB (c : UInt8) : UInt8 := if isUp c then UInt8.ofNat (c.toNat + 32) else c
theorem isUp_eq (c : UInt8) : ((decide (65 ≤ (c.toNat : Int))) && (decide ((c.toNat : Int) ≤ 90))) = isUp c := by
 unfold isUp
 congr 1
 ·rw [Bool.eq_iff_iff]; simp; omega
 ·rw [Bool.eq_iff_iff]; simp; omega
theorem loB_up {c : UInt8} (h : isUp c = true) : UInt8.ofNat (wr .u8 ((c.toNat : Int) + 32)).toNat = loB c := by
 have h' := h
 unfold isUp at h'
 simp only [Bool.and_eq_true, decide_eq_true_eq] at h'
 unfold loB
 rw [if_pos h, wr_u8]
 congr 1
 omega
theorem map_sameL {l : List UInt8} (h : ∀ c, c ∈ l → isUp c = false) : l.map loB = l := by
 refine (List.map_congr_left (g := id) fun c hc => ?_).trans (List.map_id _)
 unfold loB
 rw [h c hc]
 rfl
theorem lo_l0 (s : List UInt8) (hl : s.length ≤ 140737488355328) (ha : ∀ c, c ∈ s → c.toNat < 128) (K : Bool → Bool → Option (List UInt8)) : ∀ (d i : Nat) (b : Bool), i + d = s.length → ∀ m, strings_ToLower_l0 s K (m + d + 1) b (i : Int) = K true (b || (s.drop i).any isUp)
 | 0, i, b, hi, m => by
  rw [strings_ToLower_l0, if_neg (by simp only [decide_eq_true_eq]; omega), List.drop_eq_nil_of_le (by omega)]
  simp
 | d + 1, i, b, hi, m => by
  have h : i < s.length := by omega
  have := ha s[i] (List.getElem_mem h)
  rw [strings_ToLower_l0, if_pos (by simp only [decide_eq_true_eq]; omega), at_some h, Option.bind_some, if_neg (by simp only [decide_eq_true_eq]; omega), isUp_eq, wi_id (by omega) (by omega), show (i : Int) + 1 = ((i + 1 : Nat) : Int) by omega,
   show m + (d + 1) = m + d + 1 by omega, lo_l0 s hl ha K d (i + 1) _ (by omega) m, List.drop_eq_getElem_cons h, List.any_cons, Bool.or_assoc]
theorem lo_l1 (s : List UInt8) (hl : s.length ≤ 1000000000) (K : List UInt8 → Int → Option (List UInt8)) : ∀ (d i p : Nat), i + d = s.length → p ≤ i → (∀ c, c ∈ (s.take i).drop p → isUp c = false) →
  ∃ p', p' ≤ s.length ∧ (∀ c, c ∈ s.drop p' → isUp c = false) ∧ ∀ m, strings_ToLower_l1 s K (m + d + 1) ((s.take p).map loB) (p : Int) (i : Int) = K ((s.take p').map loB) (p' : Int)
 | 0, i, p, hi, hp, hn => by
  obtain rfl : i = s.length := by omega
  refine ⟨p, hp, by rw [List.take_length] at hn; exact hn, fun m => ?_⟩
  rw [strings_ToLower_l1, if_neg (by simp)]
 | d + 1, i, p, hi, hp, hn => by
  have h : i < s.length := by omega
  have tk : s.take (i + 1) = s.take i ++ [s[i]] := by rw [List.take_add_one, List.getElem?_eq_getElem h]; rfl
  by_cases hc : isUp s[i] = true
  ·obtain ⟨p', h1, h2, h3⟩ := lo_l1 s hl K d (i + 1) (i + 1) (by omega) (Nat.le_refl _) (fun c hc => by rw [List.drop_eq_nil_of_le (by rw [List.length_take]; omega)] at hc; cases hc)
   refine ⟨p', h1, h2, fun m => ?_⟩
   have hup := loB_up hc
   have hrange : 0 ≤ wr .u8 ((s[i].toNat : Int) + 32) ∧ wr .u8 ((s[i].toNat : Int) + 32) < 256 := by rw [wr_u8]; omega
   have step : ∀ b : List UInt8, b = (s.take i).map loB → strings_ToLower_j12 s[i] (i : Int) s (strings_ToLower_l1 s K (m + d + 1)) K b = K ((s.take p').map loB) (p' : Int) := by
    rintro b rfl
    unfold strings_ToLower_j12 strings_ToLower_j11 sb_WriteByte bWriteByte?
    rw [if_pos ⟨by rw [List.length_map, List.length_take]; omega, hrange.1, hrange.2⟩, Option.bind_some, hup, wi_id (by omega) (by omega), show (i : Int) + 1 = ((i + 1 : Nat) : Int) by omega]
    have := h3 m
    rw [tk, List.map_append] at this
    exact this
   rw [strings_ToLower_l1, if_pos (by simp only [decide_eq_true_eq]; omega), at_some h, Option.bind_some, isUp_eq, if_pos hc, show m + (d + 1) = m + d + 1 by omega]
   by_cases hpi : p < i
   ·rw [if_pos (by simp only [decide_eq_true_eq]; omega), sub_nat (by omega) (by omega), Option.bind_some]
    show (bWriteString? ((s.take p).map loB) ((s.take i).drop p)).bind _ = _
    unfold bWriteString?
    rw [if_pos (by rw [List.length_map, List.length_take, List.length_drop, List.length_take]; omega), Option.bind_some]
    refine step _ ?_
    conv => lhs; arg 2; rw [← map_sameL hn]
    rw [← List.map_append]
    congr 1
    have e : s.take p = (s.take i).take p := by rw [List.take_take, Nat.min_eq_left hp]
    rw [e, List.take_append_drop]
   ·obtain rfl : p = i := by omega
    rw [if_neg (by simp)]
    exact step _ rfl
  ·obtain ⟨p', h1, h2, h3⟩ := lo_l1 s hl K d (i + 1) p (by omega) (by omega) (fun c hc' => by
    rw [tk, List.drop_append_of_le_length (by rw [List.length_take]; omega)] at hc'
    rcases List.mem_append.1 hc' with h | h
    ·exact hn c h
    ·rw [List.mem_singleton] at h; subst h; simpa using hc)
   refine ⟨p', h1, h2, fun m => ?_⟩
   rw [strings_ToLower_l1, if_pos (by simp only [decide_eq_true_eq]; omega), at_some h, Option.bind_some, isUp_eq, if_neg hc, show m + (d + 1) = m + d + 1 by omega]
   unfold strings_ToLower_j11
   rw [wi_id (by omega) (by omega), show (i : Int) + 1 = ((i + 1 : Nat) : Int) by omega]
   exact h3 m
theorem toLower_eq (s : List UInt8) (hl : s.length ≤ 1000000000) (ha : ∀ c, c ∈ s → c.toNat < 128) : strings_ToLower s = some (s.map loB) := by
 unfold strings_ToLower
 refine lim_add (s.length + 1) fun k => ?_
 rw [← Nat.add_assoc]
 have h0 := lo_l0 s (by omega) ha
 rw [show (0 : Int) = ((0 : Nat) : Int) from rfl, h0 _ s.length 0 false (by omega) k, if_pos rfl, List.drop_zero, Bool.false_or]
 by_cases hlow : s.any isUp = true
 ·rw [hlow, if_neg (by simp)]
  show (bGrow? (s.length : Int)).bind _ = _
  unfold bGrow?
  rw [if_pos (by omega), Option.bind_some]
  refine lim_add (s.length + 1) fun m => ?_
  obtain ⟨p', h1, h2, h3⟩ := lo_l1 s hl (fun (b_1 : (List UInt8)) (pos_1 : Int) => 
       if decide (pos_1 < (s.length : Int)) then
        (sub? s pos_1 (s.length : Int)).bind fun r_4 =>
        (sb_WriteString b_1 r_4).bind fun r_5 =>
        strings_ToLower_j13 r_5
       else
        strings_ToLower_j13 b_1) s.length 0 0 (by omega) (Nat.le_refl _) (fun c hc => by simp at hc)
  have h4 := h3 m
  simp only [List.take_zero, List.map_nil] at h4
  rw [← Nat.add_assoc]
  refine h4.trans ?_
  unfold strings_ToLower_j13
  by_cases hp : p' < s.length
  ·rw [if_pos (by simp only [decide_eq_true_eq]; omega), sub_drop h1, Option.bind_some]
   show (bWriteString? ((s.take p').map loB) (s.drop p')).bind _ = _
   unfold bWriteString?
   rw [if_pos (by rw [List.length_map, List.length_take, List.length_drop]; omega), Option.bind_some]
   congr 1
   conv => lhs; arg 2; rw [← map_sameL h2]
   rw [← List.map_append, List.take_append_drop]
  ·rw [if_neg (by simp only [decide_eq_true_eq]; omega)]
   rw [List.take_of_length_le (by omega)]
 ·have hf : s.any isUp = false := by simpa using hlow
  rw [hf, if_pos (by simp), map_sameL fun c hc => by simpa using List.any_eq_false.1 hf c hc]
end Go.Proofs.YtjicgjhhiallkaaGreatDoorBv
/- Bytes of addresses: what is plain, triples, digits of sixteen. No program is in sight. -/
namespace Go.Proofs.YtjicgjhhiallkaaGreatDoorBv
open Go
set_option linter.unusedSimpArgs false
set_option linter.unusedVariables false
def hv (c : UInt8) : Int := Lib.indexByte [48, 49, 50, 51, 52, 53, 54, 55, 56, 57, 65, 66, 67, 68, 69, 70] (if 97 ≤ c.toNat ∧ c.toNat ≤ 102 then UInt8.ofNat (c.toNat - 32) else c)
theorem hv_all (c : UInt8) : -1 ≤ hv c ∧ hv c < 16 ∧ (127 < c.toNat → hv c < 0) := by
 have := u8_all (p := fun c => decide (-1 ≤ hv c ∧ hv c < 16 ∧ (127 < c.toNat → hv c < 0))) (by decide +kernel) c
 exact of_decide_eq_true this
theorem value_eq (c : UInt8) : url_value (c.toNat : Int) = some (hv c) := by
 have := u8_all (p := fun c => decide (url_value (c.toNat : Int) = some (hv c))) (by decide +kernel) c
 simpa using this
def lowV (c : UInt8) : Int := Lib.index [48, 49, 50, 51, 52, 53, 54, 55, 56, 57, 97, 98, 99, 100, 101, 102] [loB c]
theorem lowV_eq (c : UInt8) (h : c.toNat ≤ 127) : lowV c = hv c := by
 have := u8_all (p := fun c => decide (c.toNat ≤ 127 → lowV c = hv c)) (by decide +kernel) c
 simp only [decide_eq_true_eq] at this
 exact this h
theorem byts_one (c : UInt8) : byts [(c.toNat : Int)] = [c] := by
 unfold byts
 simp
theorem byts_app (a b : List Int) : byts (a ++ b) = byts a ++ byts b := by unfold byts; rw [List.map_append]
noncomputable def plainB (c : UInt8) : Bool := (url_plain (c.toNat : Int)).getD false
theorem plain_eq (c : UInt8) : url_plain (c.toNat : Int) = some (plainB c) := by
 have := u8_all (p := fun c => decide (url_plain (c.toNat : Int) = some (plainB c))) (by decide +kernel) c
 simpa using this
noncomputable def tri (c : UInt8) : List UInt8 := (url_triple (c.toNat : Int)).getD []
theorem triple_eq (c : UInt8) : url_triple (c.toNat : Int) = some (tri c) ∧ (tri c).length = 3 := by
 have := u8_all (p := fun c => decide (url_triple (c.toNat : Int) = some (tri c) ∧ (tri c).length = 3)) (by decide +kernel) c
 simpa using this
theorem isPlain_eq (c : UInt8) : r4_isPlain (c.toNat : Int) = some (plainB c) := by
 have := u8_all (p := fun c => decide (r4_isPlain (c.toNat : Int) = some (plainB c))) (by decide +kernel) c
 simpa using this
noncomputable def enc1 (c : UInt8) : List UInt8 := if plainB c then [c] else tri c
theorem enc1_len (c : UInt8) : (enc1 c).length ≤ 3 := by
 unfold enc1
 split
 ·simp
 ·rw [(triple_eq c).2]; exact Nat.le_refl _
noncomputable def encL (s : List UInt8) : List UInt8 := s.flatMap enc1
theorem encL_len (s : List UInt8) : (encL s).length ≤ 3 * s.length := by
 induction s with
 | nil => simp [encL]
 | cons c r ih =>
  unfold encL at ih ⊢
  rw [List.flatMap_cons, List.length_append, List.length_cons]
  have := enc1_len c
  omega
theorem encL_take {s : List UInt8} {i : Nat} (h : i < s.length) : encL (s.take (i + 1)) = encL (s.take i) ++ enc1 s[i] := by
 have tk : s.take (i + 1) = s.take i ++ [s[i]] := by rw [List.take_add_one, List.getElem?_eq_getElem h]; rfl
 unfold encL
 rw [tk, List.flatMap_append]
 simp
noncomputable def tri4 (x : Int) : Option (List UInt8) :=
 (sub? [48, 49, 50, 51, 52, 53, 54, 55, 56, 57, 65, 66, 67, 68, 69, 70] (wr .u8 (x.tdiv 16)) (wr .u8 ((wr .u8 (x.tdiv 16)) + 1))).bind fun r_2 =>
 (cat? [37] r_2).bind fun r_3 =>
 (sub? [48, 49, 50, 51, 52, 53, 54, 55, 56, 57, 65, 66, 67, 68, 69, 70] (x.tmod 16) (wr .u8 ((x.tmod 16) + 1))).bind fun r_4 =>
 (cat? r_3 r_4)
theorem tri4_eq (c : UInt8) : tri4 (c.toNat : Int) = some (tri c) := by
 have := u8_all (p := fun c => decide (tri4 (c.toNat : Int) = some (tri c))) (by decide +kernel) c
 simpa using this
theorem encoded_loop (s : List UInt8) (hl : s.length ≤ 10000000) (K : List UInt8 → Option (List UInt8)) : ∀ (d i : Nat), i + d = s.length → ∀ m, r4_Encoded_l0 s K (m + d + 1) (encL (s.take i)) (ints s) (i : Int) = K (encL s)
 | 0, i, hi, m => by
  obtain rfl : i = s.length := by omega
  rw [r4_Encoded_l0, if_neg (by rw [ints_length]; simp), List.take_length]
 | d + 1, i, hi, m => by
  have h : i < s.length := by omega
  have hlen := encL_len (s.take i)
  rw [List.length_take] at hlen
  have ih := encoded_loop s hl K d (i + 1) (by omega) m
  have a1 : at? (ints s) (i : Int) = some (s[i].toNat : Int) := by rw [at_nat, ints_get, List.getElem?_eq_getElem h]; rfl
  rw [r4_Encoded_l0, if_pos (by rw [ints_length]; simp only [decide_eq_true_eq]; omega), a1, Option.bind_some, isPlain_eq, Option.bind_some, show m + (d + 1) = m + d + 1 by omega]
  unfold r4_Encoded_j3
  rw [wi_id (by omega) (by omega), show (i : Int) + 1 = ((i + 1 : Nat) : Int) by omega]
  cases hp : plainB s[i] with
  | true =>
   rw [if_pos rfl, byts_one, catq (by simp; omega), Option.bind_some]
   rw [encL_take h, enc1, hp, if_pos rfl] at ih
   exact ih
  | false =>
   rw [if_neg (by simp)]
   have e := tri4_eq s[i]
   unfold tri4 at e
   have e' : ∀ F : List UInt8 → Option (List UInt8), ((sub? [48, 49, 50, 51, 52, 53, 54, 55, 56, 57, 65, 66, 67, 68, 69, 70] (wr .u8 ((s[i].toNat : Int).tdiv 16)) (wr .u8 ((wr .u8 ((s[i].toNat : Int).tdiv 16)) + 1))).bind fun r_2 =>
     (cat? [37] r_2).bind fun r_3 =>
     (sub? [48, 49, 50, 51, 52, 53, 54, 55, 56, 57, 65, 66, 67, 68, 69, 70] ((s[i].toNat : Int).tmod 16) (wr .u8 (((s[i].toNat : Int).tmod 16) + 1))).bind fun r_4 =>
     (cat? r_3 r_4).bind F) = F (tri s[i]) := by
    intro F
    have := congrArg (fun o => o.bind F) e
    simp only [Option.bind_assoc, Option.bind_some] at this
    exact this
   rw [e', catq (by rw [(triple_eq _).2]; omega), Option.bind_some]
   rw [encL_take h, enc1, hp, if_neg (by simp)] at ih
   exact ih
theorem encoded_eq (s : List UInt8) (hl : s.length ≤ 10000000) : r4_Encoded s = some (encL s) := by
 unfold r4_Encoded
 refine lim_add (s.length + 1) fun m => ?_
 exact encoded_loop s hl _ s.length 0 (by omega) m
/-! ### read back -/
def decU : List UInt8 → Option (List Tunit)
 | [] => some []
 | [c] => if c = 37 then none else some [⟨(c.toNat : Int), false⟩]
 | [c, d] => if c = 37 then none else (decU [d]).map (⟨(c.toNat : Int), false⟩ :: ·)
 | c :: a :: b :: r => if c = 37 then (if hv a < 0 ∨ hv b < 0 then none else (decU r).map (⟨16 * hv a + hv b, true⟩ :: ·)) else (decU (a :: b :: r)).map (⟨(c.toNat : Int), false⟩ :: ·)
theorem decU_plain {c : UInt8} {r : List UInt8} (h : c ≠ 37) : decU (c :: r) = (decU r).map (⟨(c.toNat : Int), false⟩ :: ·) := by
 match r with
 | [] => simp [decU, h]
 | [d] => conv => lhs; rw [decU, if_neg h]
 | a :: b :: r => conv => lhs; rw [decU, if_neg h]
theorem or_val : ∀ i j : Fin 16, wr .u8 (bitsV .or .i64 (shl .i64 ((i.val : Nat) : Int) 4) ((j.val : Nat) : Int)) = 16 * ((i.val : Nat) : Int) + ((j.val : Nat) : Int) := by decide +kernel
theorem or_eq {x y : Int} (h1 : 0 ≤ x) (h2 : x < 16) (h3 : 0 ≤ y) (h4 : y < 16) : wr .u8 (bitsV .or .i64 (shl .i64 x 4) y) = 16 * x + y := by
 obtain ⟨i, rfl⟩ : ∃ i : Nat, x = i := ⟨x.toNat, by omega⟩
 obtain ⟨j, rfl⟩ : ∃ j : Nat, y = j := ⟨y.toNat, by omega⟩
 exact or_val ⟨i, by omega⟩ ⟨j, by omega⟩
theorem read_plain {c : UInt8} {r : List UInt8} (h : c ≠ 37) : url_read (c :: r) = some ((c.toNat : Int), 1) := by
 have h' : ¬ (c.toNat : Int) = 37 := fun e => h (UInt8.toNat_inj.1 (by simp; omega))
 unfold url_read
 rw [show at? (c :: r) 0 = some c from rfl, Option.bind_some, if_pos (by simpa using h'), Option.bind_some]
theorem read_short {r : List UInt8} (h : r.length < 2) : url_read (37 :: r) = some (0, 0) := by
 unfold url_read url_read_j1
 rw [show at? (37 :: r) 0 = some 37 from rfl, Option.bind_some, if_neg (by decide), if_pos (by simp only [decide_eq_true_eq, List.length_cons]; omega), if_pos rfl]
theorem read_tri {a b : UInt8} {r : List UInt8} : url_read (37 :: a :: b :: r) = if hv a < 0 ∨ hv b < 0 then some (0, 0) else some (16 * hv a + hv b, 3) := by
 have ha := hv_all a
 have hb := hv_all b
 have a0 : at? (37 :: a :: b :: r) 0 = some 37 := rfl
 have a1 : at? (37 :: a :: b :: r) 1 = some a := rfl
 have a2 : at? (37 :: a :: b :: r) 2 = some b := rfl
 have bad : url_read_j1 (37 :: a :: b :: r) true = some (0, 0) := rfl
 unfold url_read
 rw [a0, Option.bind_some, if_neg (by decide), if_neg (by simp only [decide_eq_true_eq, List.length_cons]; omega), a1, Option.bind_some, value_eq, Option.bind_some, bad]
 by_cases h1 : hv a < 0
 ·rw [if_pos (show decide (hv a < 0) = true by simpa using h1), if_pos (show hv a < 0 ∨ hv b < 0 from .inl h1)]
 ·rw [if_neg (show ¬ decide (hv a < 0) = true by simpa using h1), a2, Option.bind_some, value_eq, Option.bind_some]
  by_cases h2 : hv b < 0
  ·rw [show decide (hv b < 0) = true by simpa using h2, bad, if_pos (show hv a < 0 ∨ hv b < 0 from .inr h2)]
  ·rw [show decide (hv b < 0) = false by simpa using h2, if_neg (show ¬ (hv a < 0 ∨ hv b < 0) by omega)]
   unfold url_read_j1
   rw [if_neg (by simp), a1, a2]
   simp only [Option.bind_some, value_eq]
   rw [or_eq (by omega) (by omega) (by omega) (by omega)]
def uF (u : Tunit) : Int := u.f_c
theorem decode_loop (s0 : List UInt8) : ∀ (N : Nat) (s : List UInt8) (out : List Int), s.length < N → s.length + out.length ≤ 10000000 →
  url_Decode_l0 (fun out1 => some (byts out1, 0)) N s out = match decU s with | some l => some (byts (out ++ l.map uF), 0) | none => some ([], 3)
 | 0, s, out, h, _ => by omega
 | N + 1, [], out, h, ho => by
  rw [url_Decode_l0, if_neg (by simp)]
  simp [decU]
 | N + 1, c :: r, out, h, ho => by
  simp only [List.length_cons] at h ho
  rw [url_Decode_l0, if_pos (by simp)]
  by_cases hc : c = 37
  ·subst hc
   match r, h, ho with
   | [], h, ho => rw [read_short (by simp), Option.bind_some, if_pos (by decide)]; rfl
   | [d], h, ho => rw [read_short (by simp), Option.bind_some, if_pos (by decide)]; rfl
   | a :: b :: r, h, ho =>
    simp only [List.length_cons] at h ho
    rw [read_tri, decU, if_pos rfl]
    by_cases hb : hv a < 0 ∨ hv b < 0
    ·rw [if_pos hb, if_pos hb, Option.bind_some, if_pos (by decide)]
    ·rw [if_neg hb, if_neg hb, Option.bind_some, if_neg (by simp), appq (by simp; omega), Option.bind_some]
     show (sub? (37 :: a :: b :: r) ((3 : Nat) : Int) ((37 :: a :: b :: r).length : Int)).bind _ = _
     rw [sub_drop (by simp), Option.bind_some]
     show url_Decode_l0 _ N r _ = _
     rw [decode_loop s0 N r _ (by omega) (by simp; omega)]
     cases decU r with
     | none => rfl
     | some l => simp [uF]
  ·rw [read_plain hc, Option.bind_some, if_neg (by simp), appq (by simp; omega), Option.bind_some]
   show (sub? (c :: r) ((1 : Nat) : Int) ((c :: r).length : Int)).bind _ = _
   rw [sub_drop (by simp), Option.bind_some]
   show url_Decode_l0 _ N r _ = _
   rw [decode_loop s0 N r _ (by omega) (by simp; omega), decU_plain hc]
   cases decU r with
   | none => rfl
   | some l => simp [uF]
theorem decode_eq (s : List UInt8) (hl : s.length ≤ 10000000) : url_Decode s = match decU s with | some l => some (byts (l.map uF), 0) | none => some ([], 3) := by
 unfold url_Decode
 refine lim_eq (s.length + 1) fun k hk => ?_
 have := decode_loop s k s [] (by omega) (by simpa using hl)
 simpa using this
theorem fn1_eq (c : UInt8) (h : c.toNat ≤ 127) : r4_units_fn1 (c.toNat : Int) = some (hv c) := by
 unfold r4_units_fn1
 rw [byts_one, toLower_eq [c] (by simp) (by intro d hd; rw [List.mem_singleton] at hd; subst hd; omega), Option.bind_some]
 show (index? _ [loB c]).bind _ = _
 unfold index?
 rw [if_pos (by simp), Option.bind_some]
 exact congrArg some (lowV_eq c h)
theorem units_loop (s : List UInt8) (hl : s.length ≤ 10000000) : ∀ (N k : Nat) (out : List Tunit), s.length - k < N → k ≤ s.length → out.length ≤ k →
  r4_units_l0 s (fun out1 => some (out1, true)) N out (k : Int) = match decU (s.drop k) with | some l => some (out ++ l, true) | none => some ([], false)
 | 0, k, out, h, _, _ => by omega
 | N + 1, k, out, h, hk, ho => by
  rw [r4_units_l0]
  by_cases h1 : k < s.length
  ·rw [if_pos (by simp only [decide_eq_true_eq]; omega), at_some h1, Option.bind_some, List.drop_eq_getElem_cons h1]
   unfold r4_units_j11
   by_cases hc : s[k] = 37
   ·rw [if_neg (by simp [hc]), wi_id (by omega) (by omega)]
    have bad : r4_units_j12 s (k : Int) (r4_units_l0 s (fun out1 => some (out1, true)) N) (fun out1 => some (out1, true)) out true = some ([], false) := by
     unfold r4_units_j12; rw [if_pos rfl]
    by_cases h3 : k + 2 < s.length
    ·have e2 : s.drop (k + 1) = s[k + 1] :: s[k + 2] :: s.drop (k + 3) := by rw [List.drop_eq_getElem_cons (show k + 1 < s.length by omega), List.drop_eq_getElem_cons h3]
     have n1 : (k : Int) + 1 = ((k + 1 : Nat) : Int) := by omega
     have n2 : (k : Int) + 2 = ((k + 2 : Nat) : Int) := by omega
     have ha := hv_all s[k + 1]
     have hb := hv_all s[k + 2]
     rw [e2, decU, if_pos hc, if_neg (by simp only [decide_eq_true_eq]; omega), wi_id (by omega) (by omega), n1, n2, at_some (show k + 1 < s.length by omega), Option.bind_some]
     by_cases c1 : 127 < s[k + 1].toNat
     ·rw [if_pos (by simp only [decide_eq_true_eq]; omega), bad, if_pos (.inl (ha.2.2 c1))]
     rw [if_neg (by simp only [decide_eq_true_eq]; omega), at_some h3, Option.bind_some]
     by_cases c2 : 127 < s[k + 2].toNat
     ·rw [if_pos (by simp only [decide_eq_true_eq]; omega), bad, if_pos (.inr (hb.2.2 c2))]
     rw [if_neg (by simp only [decide_eq_true_eq]; omega), Option.bind_some, fn1_eq _ (by omega), Option.bind_some]
     by_cases c3 : hv s[k + 1] < 0
     ·rw [if_pos (by simpa using c3), bad, if_pos (.inl c3)]
     rw [if_neg (by simpa using c3), Option.bind_some, fn1_eq _ (by omega), Option.bind_some]
     by_cases c4 : hv s[k + 2] < 0
     ·rw [show decide (hv s[k + 2] < 0) = true by simpa using c4, bad, if_pos (.inr c4)]
     rw [show decide (hv s[k + 2] < 0) = false by simpa using c4, if_neg (by omega)]
     unfold r4_units_j12 r4_units_j11
     rw [if_neg (by simp), wi_id (n := (k : Int) + 1) (by omega) (by omega), wi_id (n := (k : Int) + 2) (by omega) (by omega), n1, n2, at_some (show k + 1 < s.length by omega), at_some h3]
     simp only [Option.bind_some]
     rw [fn1_eq _ (by omega), fn1_eq _ (by omega), Option.bind_some, Option.bind_some, wi_id (n := 16 * hv s[k + 1]) (by omega) (by omega), wi_id (n := 16 * hv s[k + 1] + hv s[k + 2]) (by omega) (by omega), wr_u8, show (16 * hv s[k + 1] + hv s[k + 2]) % 256 = 16 * hv s[k + 1] + hv s[k + 2] by omega, appq (by simp; omega), Option.bind_some,
      wi_id (by omega) (by omega), show ((k + 2 : Nat) : Int) + 1 = ((k + 3 : Nat) : Int) by omega, units_loop s hl N (k + 3) _ (by omega) (by omega) (by simp; omega)]
     cases decU (s.drop (k + 3)) with
     | none => rfl
     | some l => simp
    ·rw [if_pos (by simp only [decide_eq_true_eq]; omega), bad]
     have hsh : (s.drop (k + 1)).length < 2 := by rw [List.length_drop]; omega
     rw [hc]
     match s.drop (k + 1), hsh with
     | [], _ => rfl
     | [d], _ => rfl
   ·have hc' : ¬ (s[k].toNat : Int) = 37 := fun e => hc (UInt8.toNat_inj.1 (by simp; omega))
    rw [if_pos (by simpa using hc'), Option.bind_some, appq (by simp; omega), Option.bind_some, wi_id (by omega) (by omega), show (k : Int) + 1 = ((k + 1 : Nat) : Int) by omega, units_loop s hl N (k + 1) _ (by omega) (by omega) (by simp; omega), decU_plain hc]
    cases decU (s.drop (k + 1)) with
    | none => rfl
    | some l => simp
  ·rw [if_neg (by simp only [decide_eq_true_eq]; omega), List.drop_eq_nil_of_le (by omega)]
   simp [decU]
theorem units_eq (s : List UInt8) (hl : s.length ≤ 10000000) : r4_units s = match decU s with | some l => some (l, true) | none => some ([], false) := by
 unfold r4_units
 refine lim_eq (s.length + 1) fun k hk => ?_
 have := units_loop s hl k 0 [] (by omega) (by omega) (by simp)
 simpa using this
theorem decU_len : ∀ (N : Nat) (s : List UInt8) (l : List Tunit), s.length ≤ N → decU s = some l → l.length ≤ s.length
 | _, [], l, _, h => by cases h; simp
 | 0, c :: r, l, h, _ => by simp at h
 | N + 1, c :: r, l, hN, h => by
  simp only [List.length_cons] at hN
  by_cases hc : c = 37
  ·subst hc
   match r, h, hN with
   | [], h, _ => cases h
   | [d], h, _ => cases h
   | a :: b :: r, h, hN =>
    rw [decU, if_pos rfl] at h
    split at h
    ·cases h
    ·obtain ⟨l', h1, rfl⟩ := Option.map_eq_some_iff.1 h
     simp only [List.length_cons] at hN
     have := decU_len N r l' (by omega) h1
     simp only [List.length_cons]; omega
  ·rw [decU_plain hc] at h
   obtain ⟨l', h1, rfl⟩ := Option.map_eq_some_iff.1 h
   have := decU_len N r l' (by omega) h1
   simp only [List.length_cons]; omega
end Go.Proofs.YtjicgjhhiallkaaGreatDoorBv
/- Encode, as the program does it. No program is in sight. -/
namespace Go.Proofs.YtjicgjhhiallkaaGreatDoorBv
open Go
set_option linter.unusedSimpArgs false
set_option linter.unusedVariables false
theorem encode_loop (s : List UInt8) (hl : s.length ≤ 10000000) (K : List UInt8 → Option (List UInt8)) : ∀ (d i : Nat), i + d = s.length → ∀ m, url_Encode_l0 s K (m + d + 1) (encL (s.take i)) (i : Int) = K (encL s)
 | 0, i, hi, m => by
  obtain rfl : i = s.length := by omega
  rw [url_Encode_l0, if_neg (by simp), List.take_length]
 | d + 1, i, hi, m => by
  have h : i < s.length := by omega
  have hlen := encL_len (s.take i)
  rw [List.length_take] at hlen
  have ih := encode_loop s hl K d (i + 1) (by omega) m
  have hc := s[i].toNat_lt
  rw [url_Encode_l0, if_pos (by simp only [decide_eq_true_eq]; omega), at_some h, Option.bind_some, plain_eq, Option.bind_some, show m + (d + 1) = m + d + 1 by omega]
  unfold url_Encode_j3
  rw [wi_id (by omega) (by omega), show (i : Int) + 1 = ((i + 1 : Nat) : Int) by omega]
  cases hp : plainB s[i] with
  | true =>
   rw [if_pos rfl, Option.bind_some]
   show (bWriteByte? (encL (s.take i)) (s[i].toNat : Int)).bind _ = _
   unfold bWriteByte?
   rw [if_pos ⟨by omega, by omega, by omega⟩, Option.bind_some]
   rw [encL_take h, enc1, hp, if_pos rfl] at ih
   simpa using ih
  | false =>
   rw [if_neg (by simp), Option.bind_some, (triple_eq _).1, Option.bind_some]
   show (bWriteString? (encL (s.take i)) (tri s[i])).bind _ = _
   unfold bWriteString?
   rw [if_pos (by rw [(triple_eq _).2]; omega), Option.bind_some]
   rw [encL_take h, enc1, hp, if_neg (by simp)] at ih
   exact ih
theorem encode_eq (s : List UInt8) (hl : s.length ≤ 10000000) : url_Encode s = some (encL s) := by
 unfold url_Encode
 refine lim_add (s.length + 1) fun m => ?_
 exact encode_loop s hl _ s.length 0 (by omega) m
end Go.Proofs.YtjicgjhhiallkaaGreatDoorBv
/- Addresses, their first steps: what a text begins with, small letters, hosts. No program is in sight. -/
namespace Go.Proofs.YtjicgjhhiallkaaGreatDoorBv
open Go
set_option linter.unusedSimpArgs false
set_option linter.unusedVariables false
theorem hp_eq (s p : List UInt8) : sl_HasPrefix s p = some (decide (s.take p.length = p)) := by
 unfold sl_HasPrefix sl_HasPrefix_j1
 by_cases h : p.length ≤ s.length
 ·rw [if_pos (by simp only [decide_eq_true_eq]; omega), sub_take h, Option.bind_some]
 ·rw [if_neg (by simp only [decide_eq_true_eq]; omega), List.take_of_length_le (by omega)]
  congr 1
  symm
  rw [decide_eq_false_iff_not]
  rintro rfl
  exact h (Nat.le_refl _)
theorem take_le {s p : List UInt8} (h : s.take p.length = p) : p.length ≤ s.length := by
 have := congrArg List.length h
 rw [List.length_take] at this
 omega
theorem cutPre_eq (s p : List UInt8) : strings_CutPrefix s p = some (if s.take p.length = p then (s.drop p.length, true) else (s, false)) := by
 unfold strings_CutPrefix sl_CutPrefix
 rw [hp_eq, Option.bind_some]
 by_cases h : s.take p.length = p
 ·rw [if_neg (by simp [h]), sub_drop (take_le h), if_pos h]; rfl
 ·rw [if_pos (by simp [h]), if_neg h]; rfl
theorem trimPre_eq (s p : List UInt8) : strings_TrimPrefix s p = some (if s.take p.length = p then s.drop p.length else s) := by
 unfold strings_TrimPrefix sl_TrimPrefix
 rw [hp_eq, Option.bind_some]
 by_cases h : s.take p.length = p
 ·rw [if_pos (by simp [h]), sub_drop (take_le h), if_pos h]; rfl
 ·rw [if_neg (by simp [h]), if_neg h]; rfl
/-! ### small letters -/
theorem byts_ints' (l : List UInt8) : byts (ints l) = l := by
 unfold byts ints
 rw [List.map_map]
 refine (List.map_congr_left (g := id) fun c _ => ?_).trans (List.map_id _)
 simp
theorem up_between (c : UInt8) : r4_Between (wr .i64 (c.toNat : Int)) 65 90 = isUp c := by
 have := c.toNat_lt
 unfold r4_Between
 rw [wr_i64, wi_id (by omega) (by omega)]
 exact isUp_eq c
theorem lower_l0 (s : List UInt8) (hl : s.length ≤ 140737488355328) : ∀ (N i : Nat), s.length - i < N → i ≤ s.length →
  r4_lower_l0 (fun b => some (byts b)) N (ints ((s.take i).map loB ++ s.drop i)) (s.length : Int) (i : Int) = some (s.map loB)
 | 0, i, hN, hi => by omega
 | N + 1, i, hN, hi => by
  rw [r4_lower_l0]
  have hlen : ((s.take i).map loB).length = i := by simp; omega
  by_cases h : i < s.length
  ·have hg : ((s.take i).map loB ++ s.drop i)[i]? = some s[i] := by
    rw [List.getElem?_append_right (by omega), hlen]
    simp [h]
   have ih := lower_l0 s hl N (i + 1) (by omega) (by omega)
   have eset : ((s.take i).map loB ++ s.drop i).set i (loB s[i]) = (s.take (i + 1)).map loB ++ s.drop (i + 1) := by
    rw [List.set_append_right _ _ (by omega), hlen, List.drop_eq_getElem_cons h, Nat.sub_self, List.set_cons_zero, List.take_add_one, List.getElem?_eq_getElem h]
    simp only [Option.toList_some, List.map_append, List.map_cons, List.map_nil, List.append_assoc, List.cons_append, List.nil_append]
   have hint : ∀ c : UInt8, (ints ((s.take i).map loB ++ s.drop i)).set i (c.toNat : Int) = ints (((s.take i).map loB ++ s.drop i).set i c) := by
    intro c
    unfold ints
    rw [List.map_set]
   have ha : at? (ints ((s.take i).map loB ++ s.drop i)) (i : Int) = some (s[i].toNat : Int) := by rw [at_nat, ints_get, hg]; rfl
   rw [if_pos (by simp only [decide_eq_true_eq]; omega), ha, Option.bind_some, Option.bind_some, up_between]
   unfold r4_lower_j3
   rw [wi_id (by omega) (by omega), show (i : Int) + 1 = ((i + 1 : Nat) : Int) by omega]
   by_cases hc : isUp s[i] = true
   ·have e2 : wr .u8 ((s[i].toNat : Int) + 32) = ((loB s[i]).toNat : Int) := by
     rw [← loB_up hc, wr_u8]
     have : 0 ≤ ((s[i].toNat : Int) + 32) % 256 ∧ ((s[i].toNat : Int) + 32) % 256 < 256 := by omega
     simp
     omega
    rw [if_pos hc, e2, show ((i : Int)).toNat = i from rfl, hint, eset]
    exact ih
   ·have e : loB s[i] = s[i] := by unfold loB; rw [if_neg hc]
    have eq : (s.take i).map loB ++ s.drop i = (s.take (i + 1)).map loB ++ s.drop (i + 1) := by
     rw [← eset, e]
     exact (set_selfB hg).symm
    rw [eq, if_neg hc]
    exact ih
  ·have : i = s.length := by omega
   subst this
   rw [if_neg (by simp)]
   simp [byts_ints']
theorem lower_eq {s : List UInt8} (hl : s.length ≤ 140737488355328) : r4_lower s = some (s.map loB) := by
 unfold r4_lower
 refine lim_eq (s.length + 1) fun k hk => ?_
 have := lower_l0 s hl k 0 (by omega) (by omega)
 rw [ints_length]
 simpa using this
theorem fn1_small (r : Int) (h0 : 0 ≤ r) (h1 : r ≤ 1114111) : url_small_fn1 r = if 65 ≤ r ∧ r ≤ 90 then r + 32 else r := by
 unfold url_small_fn1
 by_cases h : 65 ≤ r ∧ r ≤ 90
 ·rw [if_pos (by simpa using h), if_pos h]
  have e1 : wr .i32 (r + 97) = r + 97 := by simp [wr, IntKind.wrap, IntKind.bits]; omega
  rw [e1]
  have e2 : wr .i32 (r + 97 - 65) = r + 97 - 65 := by simp [wr, IntKind.wrap, IntKind.bits]; omega
  rw [e2]
  omega
 ·rw [if_neg (by simpa using h), if_neg h]
theorem small_some (s : List UInt8) (hl : s.length ≤ 10000000) : url_small s = some (Lib.mapD url_small_fn1 s) := by
 unfold url_small
 show (smap? url_small_fn1 s).bind _ = _
 rw [smap_some (by omega) fun x hx => ?_, Option.bind_some]
 rw [fn1_small _ (by omega) (by omega)]
 split <;> omega
theorem enc_ascii (c : UInt8) (h : c.toNat < 128) : 0 ≤ url_small_fn1 (c.toNat : Int) ∧ Lib.encodeRune (url_small_fn1 (c.toNat : Int)) = [loB c] := by
 have := u8_all (p := fun c => decide (c.toNat < 128 → 0 ≤ url_small_fn1 (c.toNat : Int) ∧ Lib.encodeRune (url_small_fn1 (c.toNat : Int)) = [loB c])) (by decide +kernel) c
 exact of_decide_eq_true this h
theorem dl_ascii (c : UInt8) (r : List UInt8) (h : c.toNat < 128) : Lib.decodeL (c :: r) = (c.toNat, 1) := by
 have := decode_ascii ⟨(c :: r).toArray⟩ 0 (by show 0 < (c :: r).toArray.size; simp) (by show ((c :: r).toArray[0]'(by simp)).toNat < 128; simpa using h)
 exact this
theorem mapD_ascii : ∀ s : List UInt8, (∀ c, c ∈ s → c.toNat < 128) → Lib.mapD url_small_fn1 s = s.map loB
 | [], _ => rfl
 | c :: r, h => by
  have hc := h c (List.mem_cons_self ..)
  rw [Lib.mapD_step _ _ (by simp), dl_ascii c r hc]
  simp only [List.drop_succ_cons, List.drop_zero]
  rw [if_pos (enc_ascii c hc).1, (enc_ascii c hc).2, mapD_ascii r fun x hx => h x (List.mem_cons_of_mem _ hx)]
  rfl
theorem enc_far (r : Int) (h0 : 128 ≤ r) (h1 : r ≤ 1114111) : ∃ y, y ∈ Lib.encodeRune r ∧ 128 ≤ y.toNat := by
 have key : ∃ z, z ∈ Lib.encodeRuneZ r ∧ 128 ≤ z ∧ z < 256 := by
  by_cases hb : r < 0 ∨ (55296 ≤ r ∧ r ≤ 57343) ∨ 1114111 < r
  ·rw [Lib.encodeRuneZ_bad hb]; exact ⟨239, by simp, by omega, by omega⟩
  ·by_cases h2 : r ≤ 2047
   ·rw [Lib.encodeRuneZ_two h0 h2]; exact ⟨192 + r / 64, by simp, by omega, by omega⟩
   ·by_cases h3 : r ≤ 65535
    ·rw [Lib.encodeRuneZ_three (by omega)]; exact ⟨224 + r / 4096, by simp, by omega, by omega⟩
    ·rw [Lib.encodeRuneZ_four (by omega) h1]; exact ⟨240 + r / 262144, by simp, by omega, by omega⟩
 obtain ⟨z, hz, h2, h3⟩ := key
 refine ⟨z.toNat.toUInt8, List.mem_map.2 ⟨z, hz, rfl⟩, ?_⟩
 have : z.toNat < 256 := by omega
 simp [Nat.mod_eq_of_lt this]
 omega
theorem mapD_far : ∀ (n : Nat) (s : List UInt8), s.length ≤ n → (∃ c, c ∈ s ∧ 128 ≤ c.toNat) → ∃ y, y ∈ Lib.mapD url_small_fn1 s ∧ 128 ≤ y.toNat
 | _, [], _, ⟨c, hc, _⟩ => absurd hc List.not_mem_nil
 | 0, c :: r, h, _ => by simp at h
 | n + 1, c :: r, hn, ⟨x, hx, hx128⟩ => by
  simp only [List.length_cons] at hn
  rw [Lib.mapD_step _ _ (by simp)]
  by_cases hc : c.toNat < 128
  ·rw [dl_ascii c r hc]
   simp only [List.drop_succ_cons, List.drop_zero]
   have hxr : x ∈ r := by
    rcases List.mem_cons.1 hx with rfl | h
    ·omega
    ·exact h
   obtain ⟨y, hy, hy128⟩ := mapD_far n r (by omega) ⟨x, hxr, hx128⟩
   exact ⟨y, List.mem_append.2 (.inr hy), hy128⟩
  ·have hd := decode_far ⟨(c :: r).toArray⟩ 0 (by show 0 < (c :: r).toArray.size; simp) (by show 128 ≤ ((c :: r).toArray[0]'(by simp)).toNat; simp; omega)
   have hv := hd.2.1
   have h1 : 128 ≤ (Lib.decodeL (c :: r)).1 := hd.1
   have h2 : (Lib.decodeL (c :: r)).1 ≤ 1114111 := by
    have hv' : Utf8.valid ((Lib.decodeL (c :: r)).1 : Int) = true := hv
    simp [Utf8.valid] at hv'
    omega
   rw [fn1_small _ (by omega) (by omega), if_neg (show ¬ (65 ≤ (((Lib.decodeL (c :: r)).1 : Nat) : Int) ∧ _) by omega), if_pos (by omega)]
   obtain ⟨y, hy, hy128⟩ := enc_far ((Lib.decodeL (c :: r)).1 : Int) (by omega) (by omega)
   exact ⟨y, List.mem_append.2 (.inl hy), hy128⟩
/-! ### hosts -/
def hch (c : UInt8) : Bool := (decide (97 ≤ c.toNat) && decide (c.toNat ≤ 122)) || (decide (48 ≤ c.toNat) && decide (c.toNat ≤ 57)) || decide (c = 45)
def hgood (p : List UInt8) : Bool := !p.isEmpty && p.all hch
def hR : UInt8 → List UInt8 → Bool
 | last, [] => !decide (last = 46)
 | last, c :: r => if (!hch c && !decide (c = 46)) || (decide (c = 46) && decide (last = 46)) then false else hR c r
theorem hR_cut : ∀ (s : List UInt8) (last : UInt8), hR last s = match cutB 46 s with
  | [] => false
  | h :: t => (!(decide (last = 46) && h.isEmpty)) && h.all hch && t.all hgood
 | [], last => by simp [hR, cutB]
 | c :: r, last => by
  have ih := hR_cut r
  have hne := cutB_ne 46 r
  cases hb : cutB 46 r with
  | nil => exact absurd hb hne
  | cons h t =>
   rw [hb] at ih
   by_cases hc : c = 46
   ·subst hc
    rw [hR, cutB, if_pos rfl, ih, hb]
    by_cases hl : last = 46
    ·simp [hl]
    ·simp [hl, hgood]
   ·rw [hR, cutB, if_neg hc, hb, ih]
    simp only [hc, decide_false, Bool.not_false, Bool.and_true, Bool.false_and, Bool.or_false, List.all_cons, List.isEmpty_cons, Bool.and_false]
    cases hch c <;> simp
theorem hR_good (s : List UInt8) : hR 46 s = (cutB 46 s).all hgood := by
 rw [hR_cut]
 cases hb : cutB 46 s with
 | nil => exact absurd hb (cutB_ne 46 s)
 | cons h t => simp [hgood]
theorem hR_low : ∀ (s : List UInt8) (last : UInt8), hR last s = true → ∀ c, c ∈ s → c.toNat < 128
 | [], _, _, c, hc => absurd hc List.not_mem_nil
 | x :: r, last, h, c, hc => by
  rw [hR] at h
  split at h
  ·cases h
  ·rename_i hx
   rcases List.mem_cons.1 hc with rfl | hc
   ·simp only [Bool.or_eq_true, Bool.and_eq_true, Bool.not_eq_true', decide_eq_false_iff_not, decide_eq_true_eq, not_or, not_and] at hx
    by_cases h46 : c = 46
    ·subst h46; decide
    ·have : hch c = true := by
      cases hh : hch c with
      | true => rfl
      | false => exact absurd h46 (hx.1 hh)
     unfold hch at this
     simp only [Bool.or_eq_true, Bool.and_eq_true, decide_eq_true_eq] at this
     rcases this with (h | h) | h
     ·omega
     ·omega
     ·subst h; decide
   ·exact hR_low r _ h c hc
theorem hch_eq (c : UInt8) : ([97, 98, 99, 100, 101, 102, 103, 104, 105, 106, 107, 108, 109, 110, 111, 112, 113, 114, 115, 116, 117, 118, 119, 120, 121, 122, 48, 49, 50, 51, 52, 53, 54, 55, 56, 57, 45] : List UInt8).contains c = hch c := by
 have := u8_all (p := fun c => decide (([97, 98, 99, 100, 101, 102, 103, 104, 105, 106, 107, 108, 109, 110, 111, 112, 113, 114, 115, 116, 117, 118, 119, 120, 121, 122, 48, 49, 50, 51, 52, 53, 54, 55, 56, 57, 45] : List UInt8).contains c = hch c)) (by decide +kernel) c
 exact of_decide_eq_true this
theorem trimHost (s : List UInt8) (hl : s.length ≤ 10000000) : ∃ r, strings_Trim s [97, 98, 99, 100, 101, 102, 103, 104, 105, 106, 107, 108, 109, 110, 111, 112, 113, 114, 115, 116, 117, 118, 119, 120, 121, 122, 48, 49, 50, 51, 52, 53, 54, 55, 56, 57, 45] = some r ∧ (decide (r = []) = s.all hch) := by
 refine ⟨_, (show trim? s _ = _ from if_pos ⟨by omega, by decide, by decide⟩), ?_⟩
 rw [Bool.eq_iff_iff, decide_eq_true_eq, trimS_nil, List.all_eq_true]
 constructor
 ·intro h x hx; rw [← hch_eq]; exact h x hx
 ·intro h x hx; rw [hch_eq]; exact h x hx
theorem host_l0 (r : List (List UInt8)) (hl : r.length ≤ 10000000) (hm : ∀ p, p ∈ r → p.length ≤ 10000000) : ∀ (N i : Nat), r.length - i < N → i ≤ r.length →
  url_host_l0 r (fun _ => some true) N r (i : Int) = some ((r.drop i).all hgood)
 | 0, i, hN, hi => by omega
 | N + 1, i, hN, hi => by
  rw [url_host_l0]
  by_cases h : i < r.length
  ·have ih := host_l0 r hl hm N (i + 1) (by omega) (by omega)
   rw [if_pos (by simp only [decide_eq_true_eq]; omega), at_some h, Option.bind_some, List.drop_eq_getElem_cons h, List.all_cons]
   unfold url_host_j3
   rw [wi_id (by omega) (by omega), show (i : Int) + 1 = ((i + 1 : Nat) : Int) by omega, ih]
   by_cases he : r[i] = []
   ·rw [if_pos (by simp [he]), if_pos rfl, he]; rfl
   ·obtain ⟨t, ht, htn⟩ := trimHost r[i] (hm _ (List.getElem_mem h))
    rw [if_neg (by simp [he]), ht, Option.bind_some, htn]
    have hg : hgood r[i] = r[i].all hch := by
     unfold hgood
     cases hx : r[i] with
     | nil => exact absurd hx he
     | cons a b => simp
    rw [hg]
    cases r[i].all hch <;> simp
  ·rw [if_neg (by simp only [decide_eq_true_eq]; omega), List.drop_eq_nil_of_le (by omega)]
   rfl
def hostS (s : List UInt8) : Bool := decide (s.length ≤ 100) && hR 46 s
theorem host_eq (s : List UInt8) : url_host s = some (hostS s) := by
 unfold url_host hostS
 by_cases h : s.length ≤ 100
 ·have hc := cutB_length 46 s
  rw [if_neg (by simp only [decide_eq_true_eq]; omega)]
  show (split? s [46]).bind _ = _
  rw [split_one (by omega), Option.bind_some]
  refine lim_eq ((cutB 46 s).length + 1) fun k hk => ?_
  have := host_l0 (cutB 46 s) (by omega) (fun p hp => by have := (cutB_mem hp).2; omega) k 0 (by omega) (by omega)
  rw [List.drop_zero] at this
  rw [show decide (s.length ≤ 100) = true by simpa using h, Bool.true_and, hR_good]
  exact this
 ·rw [if_pos (by simp only [decide_eq_true_eq]; omega), show decide (s.length ≤ 100) = false by simpa using h]
  rfl
theorem bad_ch (c last : UInt8) : (((((!(r4_Between (wr .i64 (c.toNat : Int)) 97 122)) && (!(r4_Between (wr .i64 (c.toNat : Int)) 48 57))) && (!decide ((c.toNat : Int) = 45))) && (!decide ((c.toNat : Int) = 46))) || ((decide ((c.toNat : Int) = 46)) && (decide ((last.toNat : Int) = 46)))) = ((!hch c && !decide (c = 46)) || (decide (c = 46) && decide (last = 46))) := by
 have hc := c.toNat_lt
 have e1 : decide ((c.toNat : Int) = 46) = decide (c = 46) := decide_eq_decide.2 ⟨fun h => UInt8.toNat_inj.1 (by simp; omega), fun h => by subst h; rfl⟩
 have e2 : decide ((last.toNat : Int) = 46) = decide (last = 46) := decide_eq_decide.2 ⟨fun h => UInt8.toNat_inj.1 (by simp; omega), fun h => by subst h; rfl⟩
 have e3 : decide ((c.toNat : Int) = 45) = decide (c = 45) := decide_eq_decide.2 ⟨fun h => UInt8.toNat_inj.1 (by simp; omega), fun h => by subst h; rfl⟩
 have e4 : r4_Between (wr .i64 (c.toNat : Int)) 97 122 = (decide (97 ≤ c.toNat) && decide (c.toNat ≤ 122)) := by
  unfold r4_Between
  rw [wr_i64, wi_id (by omega) (by omega)]
  congr 1
  ·rw [decide_eq_decide]; omega
  ·rw [decide_eq_decide]; omega
 have e5 : r4_Between (wr .i64 (c.toNat : Int)) 48 57 = (decide (48 ≤ c.toNat) && decide (c.toNat ≤ 57)) := by
  unfold r4_Between
  rw [wr_i64, wi_id (by omega) (by omega)]
  congr 1
  ·rw [decide_eq_decide]; omega
  ·rw [decide_eq_decide]; omega
 rw [e1, e2, e3, e4, e5]
 unfold hch
 cases (decide (97 ≤ c.toNat) && decide (c.toNat ≤ 122)) <;> cases (decide (48 ≤ c.toNat) && decide (c.toNat ≤ 57)) <;> cases decide (c = 45) <;> cases decide (c = 46) <;> cases decide (last = 46) <;> rfl
theorem hostRight_l0 (s : List UInt8) (hl : s.length ≤ 10000000) : ∀ (N i : Nat) (last : UInt8), s.length - i < N → i ≤ s.length →
  r4_hostRight_l0 s (fun l => some (!decide (l = 46))) N (last.toNat : Int) (i : Int) = some (hR last (s.drop i))
 | 0, i, last, hN, hi => by omega
 | N + 1, i, last, hN, hi => by
  rw [r4_hostRight_l0, ints_length]
  by_cases h : i < s.length
  ·have ih := hostRight_l0 s hl N (i + 1) s[i] (by omega) (by omega)
   have a1 : at? (ints s) (i : Int) = some (s[i].toNat : Int) := by rw [at_nat, ints_get, List.getElem?_eq_getElem h]; rfl
   rw [if_pos (by simp only [decide_eq_true_eq]; omega), a1, Option.bind_some, bad_ch, wi_id (by omega) (by omega), show (i : Int) + 1 = ((i + 1 : Nat) : Int) by omega, ih, List.drop_eq_getElem_cons h, hR]
   split <;> rfl
  ·rw [if_neg (by simp only [decide_eq_true_eq]; omega), List.drop_eq_nil_of_le (by omega), hR]
   congr 2
   exact decide_eq_decide.2 ⟨fun h => UInt8.toNat_inj.1 (by simp; omega), fun h => by subst h; rfl⟩
theorem hostRight_eq (s : List UInt8) : r4_hostRight s = some (hostS s) := by
 unfold r4_hostRight hostS
 by_cases h : 1 ≤ s.length ∧ s.length ≤ 100
 ·rw [if_neg (by unfold r4_Between; simp; omega), show decide (s.length ≤ 100) = true by simpa using h.2, Bool.true_and]
  refine lim_eq (s.length + 1) fun k hk => ?_
  exact hostRight_l0 s (by omega) k 0 46 (by omega) (by omega)
 ·rw [if_pos (by unfold r4_Between; simp; omega)]
  by_cases h0 : s = []
  ·subst h0; rfl
  ·have : ¬ s.length ≤ 100 := by
    intro h1
    refine h ⟨?_, h1⟩
    cases s with
    | nil => exact absurd rfl h0
    | cons a b => simp
   rw [show decide (s.length ≤ 100) = false by simpa using this]
   rfl
theorem host_far {s : List UInt8} (h : ∃ c, c ∈ s ∧ 128 ≤ c.toNat) : hostS s = false := by
 obtain ⟨c, hc, h128⟩ := h
 unfold hostS
 cases hh : hR 46 s with
 | false => simp
 | true =>
  have := hR_low s 46 hh c hc
  omega
theorem loB_far (c : UInt8) (h : 128 ≤ c.toNat) : loB c = c := by
 unfold loB isUp
 rw [if_neg (by simp; omega)]
/-- the host of a text, small: the two ways of making it agree on whether it is one, and, if it is, on it. -/
theorem host_small (s : List UInt8) (hl : s.length ≤ 10000000) : ∃ t, url_small s = some t ∧ hostS t = hostS (s.map loB) ∧ (hostS t = true → t = s.map loB) := by
 refine ⟨_, small_some s hl, ?_⟩
 by_cases h : ∀ c, c ∈ s → c.toNat < 128
 ·rw [mapD_ascii s h]
  exact ⟨rfl, fun _ => rfl⟩
 ·have hex : ∃ c, c ∈ s ∧ 128 ≤ c.toNat := by
   false_or_by_contra
   rename_i hn
   refine h fun c hc => ?_
   false_or_by_contra
   exact hn ⟨c, hc, by omega⟩
  have h1 := host_far (mapD_far s.length s (Nat.le_refl _) hex)
  have h2 : hostS (s.map loB) = false := by
   obtain ⟨c, hc, h128⟩ := hex
   exact host_far ⟨loB c, List.mem_map.2 ⟨c, hc, rfl⟩, by rw [loB_far c h128]; exact h128⟩
  rw [h1, h2]
  exact ⟨rfl, fun h => by cases h⟩
end Go.Proofs.YtjicgjhhiallkaaGreatDoorBv
/- Addresses: schemes; a text up to the first of some marks. No program is in sight. -/
namespace Go.Proofs.YtjicgjhhiallkaaGreatDoorBv
open Go
set_option linter.unusedSimpArgs false
set_option linter.unusedVariables false
theorem takeWhile_all {α : Type} {p : α → Bool} : ∀ {l : List α}, (∀ x, x ∈ l → p x = true) → l.takeWhile p = l
 | [], _ => rfl
 | x :: r, h => by rw [List.takeWhile_cons_of_pos (h x (List.mem_cons_self ..)), takeWhile_all fun y hy => h y (List.mem_cons_of_mem _ hy)]
/-! ### up to the first of some marks -/
theorem con_one (marks : List UInt8) (c : UInt8) : contains? marks [c] = some (marks.contains c) := by
 rw [Lib.contains_iff_indexByte]; rfl
theorem parted_l0 (s marks : List UInt8) (hl : s.length ≤ 10000000) (hm : ∀ c, c ∈ marks → c.toNat < 128) : ∀ (N i : Nat), s.length - i < N → i ≤ s.length → (∀ c, c ∈ s.take i → marks.contains c = false) →
  r4_parted_l0 s marks (fun _ => some (s, [])) N (i : Int) = some (s.takeWhile (fun c => !marks.contains c), s.dropWhile (fun c => !marks.contains c))
 | 0, i, hN, hi, hn => by omega
 | N + 1, i, hN, hi, hn => by
  rw [r4_parted_l0]
  by_cases h : i < s.length
  ·have tk : s.take (i + 1) = s.take i ++ [s[i]] := by rw [List.take_add_one, List.getElem?_eq_getElem h]; rfl
   have ih : marks.contains s[i] = false → _ := fun hc => parted_l0 s marks hl hm N (i + 1) (by omega) (by omega) (fun c hc' => by
    rw [tk] at hc'
    rcases List.mem_append.1 hc' with h | h
    ·exact hn c h
    ·rw [List.mem_singleton] at h; subst h; exact hc)
   rw [if_pos (by simp only [decide_eq_true_eq]; omega), at_some h, Option.bind_some]
   unfold r4_parted_j3
   rw [wi_id (by omega) (by omega), show (i : Int) + 1 = ((i + 1 : Nat) : Int) by omega]
   have hit : marks.contains s[i] = true → s.takeWhile (fun c => !marks.contains c) = s.take i ∧ s.dropWhile (fun c => !marks.contains c) = s.drop i := by
    intro hc
    have e : s = s.take i ++ s[i] :: s.drop (i + 1) := by rw [← List.drop_eq_getElem_cons h, List.take_append_drop]
    have e1 : (s.take i ++ s[i] :: s.drop (i + 1)).takeWhile (fun c => !marks.contains c) = s.take i := by
     rw [List.takeWhile_append_of_pos (fun x hx => by simpa using hn x hx), List.takeWhile_cons_of_neg (by simpa using hc), List.append_nil]
    have e2 : (s.take i ++ s[i] :: s.drop (i + 1)).dropWhile (fun c => !marks.contains c) = s[i] :: s.drop (i + 1) := by
     rw [List.dropWhile_append_of_pos (fun x hx => by simpa using hn x hx), List.dropWhile_cons_of_neg (by simpa using hc)]
    rw [← e] at e1 e2
    exact ⟨e1, by rw [e2, List.drop_eq_getElem_cons h]⟩
   by_cases h128 : s[i].toNat < 128
   ·rw [if_pos (by simp only [decide_eq_true_eq]; omega), sub_oneB h, Option.bind_some]
    show (contains? marks [s[i]]).bind _ = _
    rw [con_one, Option.bind_some]
    cases hc : marks.contains s[i] with
    | true =>
     rw [if_pos rfl, sub_take hi, Option.bind_some, sub_drop hi, Option.bind_some, (hit hc).1, (hit hc).2]
    | false => rw [if_neg (by simp)]; exact ih hc
   ·have hc : marks.contains s[i] = false := by
     cases hc : marks.contains s[i] with
     | false => rfl
     | true => exact absurd (hm _ (by simpa using hc)) h128
    rw [if_neg (by simp only [decide_eq_true_eq]; omega), if_neg (by simp)]
    exact ih hc
  ·obtain rfl : i = s.length := by omega
   rw [List.take_length] at hn
   rw [if_neg (by simp)]
   have e1 : s.takeWhile (fun c => !marks.contains c) = s := takeWhile_all (fun x hx => by simpa using hn x hx)
   have e2 : s.dropWhile (fun c => !marks.contains c) = [] := dropWhile_nil (fun x hx => by simpa using hn x hx)
   rw [e1, e2]
theorem parted_eq (s marks : List UInt8) (hl : s.length ≤ 10000000) (hm : ∀ c, c ∈ marks → c.toNat < 128) : r4_parted s marks = some (s.takeWhile (fun c => !marks.contains c), s.dropWhile (fun c => !marks.contains c)) := by
 unfold r4_parted
 refine lim_eq (s.length + 1) fun k hk => ?_
 exact parted_l0 s marks hl hm k 0 (by omega) (by omega) (fun c hc => by simp at hc)
theorem indexAny_eq (marks : List UInt8) : ∀ s : List UInt8, Lib.indexAny s marks = if s.dropWhile (fun c => !marks.contains c) = [] then -1 else ((s.takeWhile (fun c => !marks.contains c)).length : Int)
 | [] => rfl
 | c :: r => by
  rw [Lib.indexAny, indexAny_eq marks r]
  cases hc : marks.contains c with
  | true => rw [if_pos rfl, List.dropWhile_cons_of_neg (by rw [hc]; simp), List.takeWhile_cons_of_neg (by rw [hc]; simp), if_neg (by simp)]; rfl
  | false =>
   rw [if_neg (by simp), List.dropWhile_cons_of_pos (by rw [hc]; rfl), List.takeWhile_cons_of_pos (by rw [hc]; rfl)]
   by_cases h : r.dropWhile (fun c => !marks.contains c) = []
   ·rw [if_pos h, if_pos h]; rfl
   ·rw [if_neg h, if_neg h, if_neg (by simp)]
    simp
theorem one_con (c : UInt8) : (fun x : UInt8 => !([c] : List UInt8).contains x) = fun x => !decide (x = c) := by
 funext x
 congr 1
 rw [Bool.eq_iff_iff]
 simp
theorem cut_eq (s : List UInt8) (c : UInt8) : Lib.cut s [c] = (s.takeWhile (fun x => !([c] : List UInt8).contains x), (s.dropWhile (fun x => !([c] : List UInt8).contains x)).drop 1, !(s.dropWhile (fun x => !([c] : List UInt8).contains x)).isEmpty) := by
 have hc : ([c] : List UInt8).contains c = true := by simp
 have hne : ∀ x, x ≠ c → ([c] : List UInt8).contains x = false := fun x hx => by simpa using hx
 unfold Lib.cut
 rcases index_one c s with ⟨h1, h2⟩ | ⟨a, b, rfl, h2, h3⟩
 ·rw [h1, if_neg (by omega)]
  have e1 : s.takeWhile (fun x => !([c] : List UInt8).contains x) = s := takeWhile_all (fun x hx => by simpa using h2 x hx)
  have e2 : s.dropWhile (fun x => !([c] : List UInt8).contains x) = [] := dropWhile_nil (fun x hx => by simpa using h2 x hx)
  rw [e1, e2]
  rfl
 ·rw [h3, if_pos (by omega)]
  have e1 : (a ++ c :: b).takeWhile (fun x => !([c] : List UInt8).contains x) = a := by
   rw [List.takeWhile_append_of_pos (fun x hx => by rw [hne x (h2 x hx)]; rfl), List.takeWhile_cons_of_neg (by simp), List.append_nil]
  have e2 : (a ++ c :: b).dropWhile (fun x => !([c] : List UInt8).contains x) = c :: b := by
   rw [List.dropWhile_append_of_pos (fun x hx => by rw [hne x (h2 x hx)]; rfl), List.dropWhile_cons_of_neg (by simp)]
  rw [e1, e2]
  simp
/-- what is told of a text by its first byte c: no byte of what it begins with -/
theorem drop_head (s : List UInt8) (c : UInt8) : s.dropWhile (fun x => !([c] : List UInt8).contains x) = [] ∨ ∃ r, s.dropWhile (fun x => !([c] : List UInt8).contains x) = c :: r := by
 cases h : s.dropWhile (fun x => !([c] : List UInt8).contains x) with
 | nil => exact .inl rfl
 | cons x r =>
  right
  have := List.head_dropWhile_not (fun x => !([c] : List UInt8).contains x) (l := s) (by rw [h]; simp)
  simp only [h, List.head_cons] at this
  have hx : x = c := by simpa using this
  subst hx
  exact ⟨r, rfl⟩
/-! ### schemes -/
def lett (c : UInt8) : Bool := (decide (97 ≤ c.toNat) && decide (c.toNat ≤ 122)) || (decide (65 ≤ c.toNat) && decide (c.toNat ≤ 90))
def more (c : UInt8) : Bool := (decide (48 ≤ c.toNat) && decide (c.toNat ≤ 57)) || decide (c = 43) || decide (c = 45) || decide (c = 46)
theorem letter_eq (c : UInt8) : url_letter (c.toNat : Int) = lett c := by
 have := u8_all (p := fun c => decide (url_letter (c.toNat : Int) = lett c)) (by decide +kernel) c
 exact of_decide_eq_true this
theorem in_more (c : UInt8) : url_in (c.toNat : Int) [48, 49, 50, 51, 52, 53, 54, 55, 56, 57, 43, 45, 46] = some (more c) := by
 have := u8_all (p := fun c => decide (url_in (c.toNat : Int) [48, 49, 50, 51, 52, 53, 54, 55, 56, 57, 43, 45, 46] = some (more c))) (by decide +kernel) c
 exact of_decide_eq_true this
theorem lett_low (c : UInt8) (h : lett c = true ∨ more c = true) : c.toNat < 128 ∧ c ≠ 58 := by
 have := u8_all (p := fun c => decide ((lett c = true ∨ more c = true) → c.toNat < 128 ∧ c ≠ 58)) (by decide +kernel) c
 exact of_decide_eq_true this h
/-- may the byte c stand at a scheme's beginning (first), or in it? -/
def sch (first : Bool) (c : UInt8) : Bool := lett c || (!first && more c)
theorem sch_low {b : Bool} {c : UInt8} (h : sch b c = true) : c.toNat < 128 ∧ c ≠ 58 := by
 refine lett_low c ?_
 unfold sch at h
 simp only [Bool.or_eq_true, Bool.and_eq_true] at h
 rcases h with h | h
 ·exact .inl h
 ·exact .inr h.2
/-- a scheme's length in a text -/
def sK : Bool → List UInt8 → Option Nat
 | _, [] => none
 | first, c :: r => if c = 58 ∧ first = false then some 0 else if sch first c then (sK false r).map (· + 1) else none
theorem sK_some : ∀ (s : List UInt8) (b : Bool) (k : Nat), sK b s = some k → (s.take k).all (fun c => decide (c.toNat < 128)) = true ∧ (∀ c, c ∈ s.take k → c ≠ 58) ∧ k < s.length ∧ s[k]? = some 58 ∧ (b = true → 0 < k)
 | [], b, k, h => by cases h
 | c :: r, b, k, h => by
  rw [sK] at h
  split at h
  ·rename_i hc
   cases h
   refine ⟨rfl, fun c hc => by simp at hc, by simp, by simp [hc.1], fun hb => ?_⟩
   rw [hc.2] at hb; cases hb
  ·split at h
   ·rename_i hs
    obtain ⟨j, hj, rfl⟩ := Option.map_eq_some_iff.1 h
    obtain ⟨h1, h2, h3, h4, h5⟩ := sK_some r false j hj
    have hl := sch_low hs
    refine ⟨?_, ?_, by simpa using h3, by simpa using h4, fun _ => by omega⟩
    ·rw [List.take_succ_cons, List.all_cons, h1]; simpa using hl.1
    ·intro x hx
     rw [List.take_succ_cons] at hx
     rcases List.mem_cons.1 hx with rfl | hx
     ·exact hl.2
     ·exact h2 x hx
   ·cases h
def schemeS (s : List UInt8) : List UInt8 × List UInt8 × Bool := match sK true s with
 | none => ([], [], false)
 | some k => ((s.take k).map loB, s.drop (k + 1), true)
theorem scheme_l0 (s : List UInt8) (hl : s.length ≤ 10000000) : ∀ (N i : Nat), s.length - i < N → i ≤ s.length → (s.take i).all (fun c => decide (c.toNat < 128)) = true →
  url_scheme_l0 s (fun _ => some ([], [], false)) N (i : Int) = some (match sK (decide (i = 0)) (s.drop i) with | none => ([], [], false) | some k => ((s.take (i + k)).map loB, s.drop (i + k + 1), true))
 | 0, i, hN, hi, ha => by omega
 | N + 1, i, hN, hi, ha => by
  rw [url_scheme_l0]
  by_cases h : i < s.length
  ·have tk : s.take (i + 1) = s.take i ++ [s[i]] := by rw [List.take_add_one, List.getElem?_eq_getElem h]; rfl
   have ih : s[i].toNat < 128 → _ := fun hc => scheme_l0 s hl N (i + 1) (by omega) (by omega) (by rw [tk, List.all_append, ha]; simpa using hc)
   rw [if_pos (by simp only [decide_eq_true_eq]; omega), at_some h, Option.bind_some, List.drop_eq_getElem_cons h, sK]
   unfold url_scheme_j3
   rw [letter_eq, in_more, wi_id (by omega) (by omega), show (i : Int) + 1 = ((i + 1 : Nat) : Int) by omega]
   by_cases hc : s[i] = 58 ∧ decide (i = 0) = false
   ·have hi0 : i ≠ 0 := by simpa using hc.2
    rw [if_pos (by simp [hc.1]; omega), if_pos hc, sub_take hi, Option.bind_some, sub_drop (by omega), Option.bind_some]
    have hsm := small_some (s.take i) (by rw [List.length_take]; omega)
    rw [mapD_ascii (s.take i) (fun c hc => by simpa using List.all_eq_true.1 ha c hc)] at hsm
    rw [hsm]
    rfl
   ·rw [if_neg hc, if_neg (by
     intro hh
     simp only [Bool.and_eq_true, decide_eq_true_eq] at hh
     refine hc ⟨UInt8.toNat_inj.1 (by simp; omega), by simp; omega⟩)]
    have step : ∀ b : Bool, b = sch (decide (i = 0)) s[i] → (if (!b) = true then some (([] : List UInt8), ([] : List UInt8), false) else url_scheme_l0 s (fun _ => some ([], [], false)) N ((i + 1 : Nat) : Int)) = some (match (if sch (decide (i = 0)) s[i] = true then (sK false (s.drop (i + 1))).map (· + 1) else none) with | none => ([], [], false) | some k => ((s.take (i + k)).map loB, s.drop (i + k + 1), true)) := by
     rintro b rfl
     cases hs : sch (decide (i = 0)) s[i] with
     | false => simp
     | true =>
      rw [if_neg (by simp), ih (sch_low hs).1, if_pos rfl]
      congr 1
      rw [show decide (i + 1 = 0) = false by simp]
      cases sK false (s.drop (i + 1)) with
      | none => rfl
      | some k =>
       show ((s.take (i + 1 + k)).map loB, s.drop (i + 1 + k + 1), true) = ((s.take (i + (k + 1))).map loB, s.drop (i + (k + 1) + 1), true)
       rw [show i + 1 + k = i + (k + 1) by omega]
    cases hlt : lett s[i] with
    | true =>
     rw [if_neg (by simp)]
     exact step true (by unfold sch; rw [hlt]; rfl)
    | false =>
     rw [if_pos (by simp)]
     by_cases h0 : i = 0
     ·rw [if_pos (by simp only [decide_eq_true_eq]; omega)]
      exact step false (by unfold sch; rw [hlt]; simp [h0])
     ·rw [if_neg (by simp only [decide_eq_true_eq]; omega), Option.bind_some]
      exact step (more s[i]) (by unfold sch; rw [hlt]; simp [h0])
  ·rw [if_neg (by simp only [decide_eq_true_eq]; omega), List.drop_eq_nil_of_le (by omega), sK]
theorem scheme_eq (s : List UInt8) (hl : s.length ≤ 10000000) : url_scheme s = some (schemeS s) := by
 unfold url_scheme
 refine lim_eq (s.length + 1) fun k hk => ?_
 refine (scheme_l0 s hl k 0 (by omega) (by omega) rfl).trans ?_
 unfold schemeS
 rw [List.drop_zero]
 simp only [Nat.zero_add]
 rfl
end Go.Proofs.YtjicgjhhiallkaaGreatDoorBv
/- Addresses: the document's schemes; ports and places. No program is in sight. -/
namespace Go.Proofs.YtjicgjhhiallkaaGreatDoorBv
open Go
set_option linter.unusedSimpArgs false
set_option linter.unusedVariables false
/-! ### the document's schemes -/
def aOK : Bool → List UInt8 → Bool
 | _, [] => true
 | first, c :: r => sch first c && aOK false r
theorem sK_hit (b : List UInt8) : ∀ (a : List UInt8) (first : Bool), (∀ x, x ∈ a → x ≠ 58) → (first = true → a ≠ []) → sK first (a ++ 58 :: b) = if aOK first a then some a.length else none
 | [], first, _, h => by
  cases first with
  | true => exact absurd rfl (h rfl)
  | false => rfl
 | c :: r, first, hc, h => by
  rw [List.cons_append, sK, if_neg (fun hh => hc c (List.mem_cons_self ..) hh.1), sK_hit b r false (fun x hx => hc x (List.mem_cons_of_mem _ hx)) (fun h => by cases h), aOK]
  cases sch first c <;> cases aOK false r <;> simp
theorem sch_bad (c : UInt8) (first : Bool) : ((!(r4_Between (wr .i64 ((loB c).toNat : Int)) 97 122)) && (first || ((((!(r4_Between (wr .i64 ((loB c).toNat : Int)) 48 57)) && (!decide (((loB c).toNat : Int) = 43))) && (!decide (((loB c).toNat : Int) = 45))) && (!decide (((loB c).toNat : Int) = 46))))) = !sch first c := by
 have h : ∀ first : Bool, ((!(r4_Between (wr .i64 ((loB c).toNat : Int)) 97 122)) && (first || ((((!(r4_Between (wr .i64 ((loB c).toNat : Int)) 48 57)) && (!decide (((loB c).toNat : Int) = 43))) && (!decide (((loB c).toNat : Int) = 45))) && (!decide (((loB c).toNat : Int) = 46))))) = !sch first c := by
  have := u8_all (p := fun c => decide (∀ first : Bool, ((!(r4_Between (wr .i64 ((loB c).toNat : Int)) 97 122)) && (first || ((((!(r4_Between (wr .i64 ((loB c).toNat : Int)) 48 57)) && (!decide (((loB c).toNat : Int) = 43))) && (!decide (((loB c).toNat : Int) = 45))) && (!decide (((loB c).toNat : Int) = 46))))) = !sch first c)) (by decide +kernel) c
  exact of_decide_eq_true this
 exact h first
theorem schemeOf_l0 (a : List UInt8) (hl : a.length ≤ 10000000) : ∀ (N i : Nat), a.length - i < N → i ≤ a.length →
  r4_SchemeOf_l0 (a.map loB) (fun _ => some (a.map loB, true)) N (i : Int) = some (if aOK (decide (i = 0)) (a.drop i) then (a.map loB, true) else ([], false))
 | 0, i, hN, hi => by omega
 | N + 1, i, hN, hi => by
  rw [r4_SchemeOf_l0, ints_length, List.length_map]
  by_cases h : i < a.length
  ·have ih := schemeOf_l0 a hl N (i + 1) (by omega) (by omega)
   have a1 : at? (ints (a.map loB)) (i : Int) = some ((loB a[i]).toNat : Int) := by rw [at_nat, ints_get, List.getElem?_map, List.getElem?_eq_getElem h]; rfl
   rw [if_pos (by simp only [decide_eq_true_eq]; omega), a1, Option.bind_some, show decide ((i : Int) = 0) = decide (i = 0) from decide_eq_decide.2 (by omega), sch_bad, wi_id (by omega) (by omega), show (i : Int) + 1 = ((i + 1 : Nat) : Int) by omega, ih, List.drop_eq_getElem_cons h, aOK, show decide (i + 1 = 0) = false by simp]
   cases sch (decide (i = 0)) a[i] <;> simp
  ·rw [if_neg (by simp only [decide_eq_true_eq]; omega), List.drop_eq_nil_of_le (by omega), aOK]
   rfl
theorem schemeOf_eq (s : List UInt8) (hl : s.length ≤ 10000000) : r4_SchemeOf s = some (match sK true s with | none => ([], false) | some k => ((s.take k).map loB, true)) := by
 unfold r4_SchemeOf
 show (index? s [58]).bind _ = _
 unfold index?
 rw [if_pos (by omega), Option.bind_some]
 rcases index_one 58 s with ⟨h1, h2⟩ | ⟨a, b, rfl, h2, h3⟩
 ·rw [h1, if_pos (by decide)]
  cases hk : sK true s with
  | none => rfl
  | some k =>
   obtain ⟨-, -, h3, h4, -⟩ := sK_some s true k hk
   exact absurd rfl (h2 58 (List.mem_of_getElem? h4))
 ·rw [h3]
  cases a with
  | nil =>
   rw [if_pos (by decide)]
   have : sK true ([] ++ 58 :: b) = none := by
    rw [List.nil_append, sK, if_neg (by simp), if_neg (by decide)]
   rw [this]
  | cons c r =>
   have hlen : (c :: r).length ≤ ((c :: r) ++ 58 :: b).length := by simp
   rw [if_neg (by simp only [decide_eq_true_eq, List.length_cons]; omega), sub_take hlen, Option.bind_some, List.take_left, lower_eq (by omega), Option.bind_some, sK_hit b (c :: r) true h2 (fun _ => by simp)]
   refine lim_eq ((c :: r).length + 1) fun k hk => ?_
   refine (schemeOf_l0 (c :: r) (by omega) k 0 (by omega) (by omega)).trans ?_
   rw [List.drop_zero, show decide (0 = 0) = true from rfl]
   cases aOK true (c :: r) with
   | true =>
    rw [if_pos rfl, if_pos rfl]
    show _ = some (((c :: r ++ 58 :: b).take (c :: r).length).map loB, true)
    rw [List.take_left]
   | false => rfl
/-! ### ports -/
def dig (c : UInt8) : Bool := decide (48 ≤ c.toNat) && decide (c.toNat ≤ 57)
def valF (n : Nat) (l : List UInt8) : Nat := l.foldl (fun n c => 10 * n + (c.toNat - 48)) n
theorem valF_lt : ∀ (l : List UInt8) (n k : Nat), l.all dig = true → n < 10 ^ k → valF n l < 10 ^ (k + l.length)
 | [], n, k, _, h => h
 | c :: r, n, k, hd, h => by
  rw [List.all_cons, Bool.and_eq_true] at hd
  have hc := hd.1
  unfold dig at hc
  simp only [Bool.and_eq_true, decide_eq_true_eq] at hc
  have := valF_lt r (10 * n + (c.toNat - 48)) (k + 1) hd.2 (by rw [Nat.pow_succ]; omega)
  rw [List.length_cons, show k + (r.length + 1) = k + 1 + r.length by omega]
  exact this
theorem parseU : ∀ (l : List UInt8) (n k : Nat), l.all dig = true → n < 10 ^ k → k + l.length ≤ 6 → Lib.parseUint10 n l = .ok (valF n l)
 | [], n, k, _, _, _ => rfl
 | c :: r, n, k, hd, h, hk => by
  rw [List.all_cons, Bool.and_eq_true] at hd
  have hc := hd.1
  unfold dig at hc
  simp only [Bool.and_eq_true, decide_eq_true_eq] at hc
  rw [List.length_cons] at hk
  have hb : (10 : Nat) ^ k ≤ 10 ^ 6 := Nat.pow_le_pow_right (by omega) (by omega)
  have hn : n < 1000000 := by
   have : (10 : Nat) ^ 6 = 1000000 := by decide
   omega
  rw [Lib.parseUint10, if_pos hc, if_neg (by omega), if_neg (by omega), Nat.mul_comm n 10]
  exact parseU r _ (k + 1) hd.2 (by rw [Nat.pow_succ]; omega) (by omega)
theorem atoi_dig (l : List UInt8) (h1 : 1 ≤ l.length) (h5 : l.length ≤ 5) (hd : l.all dig = true) : strconv_Atoi l = some ((valF 0 l : Int), false) := by
 show atoi? l = _
 unfold atoi?
 rw [if_pos (by omega)]
 have hlt := valF_lt l 0 0 hd (by decide)
 have hb : (10 : Nat) ^ (0 + l.length) ≤ 10 ^ 5 := Nat.pow_le_pow_right (by omega) (by omega)
 have h10 : (10 : Nat) ^ 5 = 100000 := by decide
 have hp := parseU l 0 0 hd (by decide) (by omega)
 cases l with
 | nil => simp at h1
 | cons c r =>
  have hc := (List.all_eq_true.1 hd) c (List.mem_cons_self ..)
  unfold dig at hc
  simp only [Bool.and_eq_true, decide_eq_true_eq] at hc
  have : Lib.atoiAll (c :: r) = .ok (valF 0 (c :: r) : Int) := by
   unfold Lib.atoiAll
   simp only
   rw [if_neg (show ¬ (c.toNat = 43 ∨ c.toNat = 45) by omega)]
   unfold Lib.parseMag
   rw [if_neg (by simp), hp]
   simp only
   rw [if_neg (by omega), if_neg (by omega), if_neg (by omega)]
  rw [this]
theorem dig_eq (c : UInt8) : ([48, 49, 50, 51, 52, 53, 54, 55, 56, 57] : List UInt8).contains c = dig c := by
 have := u8_all (p := fun c => decide (([48, 49, 50, 51, 52, 53, 54, 55, 56, 57] : List UInt8).contains c = dig c)) (by decide +kernel) c
 exact of_decide_eq_true this
theorem trimDig (s : List UInt8) (hl : s.length ≤ 10000000) : ∃ r, strings_Trim s [48, 49, 50, 51, 52, 53, 54, 55, 56, 57] = some r ∧ (decide (r = []) = s.all dig) := by
 refine ⟨_, (show trim? s _ = _ from if_pos ⟨by omega, by decide, by decide⟩), ?_⟩
 rw [Bool.eq_iff_iff, decide_eq_true_eq, trimS_nil, List.all_eq_true]
 constructor
 ·intro h x hx; rw [← dig_eq]; exact h x hx
 ·intro h x hx; rw [dig_eq]; exact h x hx
def ownS (t : List UInt8) : Int := if t = [104, 116, 116, 112] then 80 else if t = [104, 116, 116, 112, 115] then 443 else 0
theorem own_eq (t : List UInt8) : url_own t = ownS t := by
 unfold url_own ownS
 by_cases h1 : t = [104, 116, 116, 112]
 ·rw [if_pos (by simpa using h1), if_pos h1]
 ·rw [if_neg (by simpa using h1), if_neg h1]
  by_cases h2 : t = [104, 116, 116, 112, 115]
  ·rw [if_pos (by simpa using h2), if_pos h2]
  ·rw [if_neg (by simpa using h2), if_neg h2]
def portS (t p : List UInt8) : Option Int :=
 if 1 ≤ p.length ∧ p.length ≤ 5 ∧ p.all dig = true ∧ 1 ≤ valF 0 p ∧ valF 0 p ≤ 65535 then some (if (valF 0 p : Int) = ownS t then 0 else (valF 0 p : Int)) else none
abbrev upTo (marks s : List UInt8) : List UInt8 := s.takeWhile (fun c => !marks.contains c)
abbrev from' (marks s : List UInt8) : List UInt8 := s.dropWhile (fun c => !marks.contains c)
theorem cut_eq' (s : List UInt8) (c : UInt8) : Lib.cut s [c] = (upTo [c] s, (from' [c] s).drop 1, !(from' [c] s).isEmpty) := cut_eq s c
theorem parted_eq' (s marks : List UInt8) (hl : s.length ≤ 10000000) (hm : ∀ c, c ∈ marks → c.toNat < 128) : r4_parted s marks = some (upTo marks s, from' marks s) := parted_eq s marks hl hm
theorem indexAny_eq' (marks s : List UInt8) : Lib.indexAny s marks = if from' marks s = [] then -1 else ((upTo marks s).length : Int) := indexAny_eq marks s
def placeS (t s : List UInt8) : Option (List UInt8 × Int) :=
 if hostS ((upTo [58] s).map loB) then (if from' [58] s = [] then some ((upTo [58] s).map loB, 0) else (portS t ((from' [58] s).drop 1)).map fun n => ((upTo [58] s).map loB, n)) else none
theorem tw_le {α : Type} (p : α → Bool) (l : List α) : (l.takeWhile p).length ≤ l.length ∧ (l.dropWhile p).length ≤ l.length := by
 have := dropWhile_take p l
 omega
theorem upTo_le (m s : List UInt8) : (upTo m s).length ≤ s.length := (tw_le _ s).1
theorem from_le (m s : List UInt8) : (from' m s).length ≤ s.length := (tw_le _ s).2
theorem place1_eq (u : TJUrl) (s : List UInt8) (hl : s.length ≤ 10000000) (hu : u.Port = 0) : ∃ u', url_place1 u s = some ((placeS u.Scheme s).isSome, u') ∧ ∀ h n, placeS u.Scheme s = some (h, n) → u' = ⟨u.Scheme, h, n, u.Path, u.Query, u.Asks, u.Fragment, u.Points⟩ := by
 unfold url_place1
 show ∃ u', (cut? s [58]).bind _ = _ ∧ _
 unfold cut?
 have t1 := upTo_le [58] s
 have t2 := from_le [58] s
 rw [if_pos (by omega), Option.bind_some, cut_eq']
 obtain ⟨t, ht, hh, ht2⟩ := host_small (upTo [58] s) (by omega)
 simp only
 rw [ht, Option.bind_some, host_eq, Option.bind_some, hh]
 unfold placeS
 cases hg : hostS ((upTo [58] s).map loB) with
 | false =>
  rw [if_pos (by rfl), if_neg (by simp)]
  exact ⟨_, rfl, fun h n hn => by cases hn⟩
 | true =>
  rw [hg] at hh
  have he := ht2 hh
  subst he
  rw [if_neg (by simp), if_pos rfl]
  generalize hQ : from' [58] s = q at t2 ⊢
  by_cases hq : q = []
  ·subst hq
   rw [if_pos rfl, if_pos (by rfl)]
   refine ⟨_, rfl, fun h n hn => ?_⟩
   cases hn
   rw [hu]
  ·have hne : q.isEmpty = false := by simpa using hq
   rw [if_neg hq, hne, if_neg (by simp)]
   have hpl : (q.drop 1).length ≤ 10000000 := by
    rw [List.length_drop]; omega
   generalize q.drop 1 = p at hpl ⊢
   by_cases hb : 1 ≤ p.length ∧ p.length ≤ 5
   ·rw [if_neg (by simp; omega)]
    obtain ⟨r, hr, hrn⟩ := trimDig p hpl
    rw [hr, Option.bind_some, hrn]
    unfold url_place1_j1 url_place1_j2
    cases hd : p.all dig with
    | false =>
     have e : portS u.Scheme p = none := by unfold portS; rw [hd, if_neg (by simp)]
     rw [e, if_pos (by rfl)]
     exact ⟨_, rfl, fun h n hn => by cases hn⟩
    | true =>
     rw [if_neg (by simp), atoi_dig p hb.1 hb.2 hd, Option.bind_some]
     by_cases hv : 1 ≤ valF 0 p ∧ valF 0 p ≤ 65535
     ·have e : portS u.Scheme p = some (if (valF 0 p : Int) = ownS u.Scheme then 0 else (valF 0 p : Int)) := by
       unfold portS; rw [if_pos ⟨hb.1, hb.2, hd, hv.1, hv.2⟩]
      rw [e, if_neg (by simp; omega), own_eq]
      by_cases ho : (valF 0 p : Int) = ownS u.Scheme
      ·rw [if_neg (by simp [ho]), if_pos ho]
       refine ⟨_, rfl, fun h n hn => ?_⟩
       cases hn
       rw [hu]
      ·rw [if_pos (by simp [ho]), if_neg ho]
       refine ⟨_, rfl, fun h n hn => ?_⟩
       cases hn
       rfl
     ·have e : portS u.Scheme p = none := by unfold portS; rw [if_neg (by omega)]
      rw [e, if_pos (by simp; omega)]
      exact ⟨_, rfl, fun h n hn => by cases hn⟩
   ·have e : portS u.Scheme p = none := by unfold portS; rw [if_neg (by omega)]
    rw [e, if_pos (by simp; omega)]
    unfold url_place1_j1
    rw [if_pos rfl]
    exact ⟨_, rfl, fun h n hn => by cases hn⟩
theorem dig_between (c : UInt8) : r4_Between (wr .i64 (c.toNat : Int)) 48 57 = dig c := by
 have := u8_all (p := fun c => decide (r4_Between (wr .i64 (c.toNat : Int)) 48 57 = dig c)) (by decide +kernel) c
 exact of_decide_eq_true this
theorem port_l2 (p q t1 t2 t3 : List UInt8) (ra : List UInt8 × Bool) (r2 : List UInt8 × List UInt8) (K : Int → Option (TJUrl × Int)) (hq : q.length ≤ 6) (hp : p.length ≤ 5) : ∀ (N i n : Nat), p.length - i < N → i ≤ p.length → n < 10 ^ i →
  r4_Addressed_l2 p (t1, q) ra r2 t3 K N (n : Int) (i : Int) = if (p.drop i).all dig = true then K (valF n (p.drop i) : Int) else some (r4_Addressed_fn1.1, r4_Addressed_fn1.2)
 | 0, i, n, hN, hi, hn => by omega
 | N + 1, i, n, hN, hi, hn => by
  rw [r4_Addressed_l2, ints_length]
  by_cases h : i < p.length
  ·have a1 : at? (ints p) (i : Int) = some (p[i].toNat : Int) := by rw [at_nat, ints_get, List.getElem?_eq_getElem h]; rfl
   have hb : (10 : Nat) ^ i ≤ 10 ^ 5 := Nat.pow_le_pow_right (by omega) (by omega)
   have h10 : (10 : Nat) ^ 5 = 100000 := by decide
   have hcl := p[i].toNat_lt
   rw [if_pos (by simp only [decide_eq_true_eq]; omega), a1, Option.bind_some, dig_between, List.drop_eq_getElem_cons h, List.all_cons]
   cases hd : dig p[i] with
   | false => rw [if_pos (by rfl), if_neg (by simp)]
   | true =>
    have hc := hd
    unfold dig at hc
    simp only [Bool.and_eq_true, decide_eq_true_eq] at hc
    rw [if_neg (by simp; omega), Bool.true_and]
    have e1 : wr .u8 ((p[i].toNat : Int) - 48) = ((p[i].toNat - 48 : Nat) : Int) := by rw [wr_u8]; omega
    have e2 : wi (wi (10 * (n : Int)) + wr .i64 (wr .u8 ((p[i].toNat : Int) - 48))) = ((10 * n + (p[i].toNat - 48) : Nat) : Int) := by
     rw [e1, wr_i64, wi_id (n := 10 * (n : Int)) (by omega) (by omega), wi_id (n := ((p[i].toNat - 48 : Nat) : Int)) (by omega) (by omega), wi_id (by omega) (by omega)]
     omega
    rw [e2, wi_id (by omega) (by omega), show (i : Int) + 1 = ((i + 1 : Nat) : Int) by omega, port_l2 p q t1 t2 t3 ra r2 K hq hp N (i + 1) _ (by omega) (by omega) (by rw [Nat.pow_succ]; omega)]
    rfl
  ·rw [if_neg (by simp only [decide_eq_true_eq]; omega), List.drop_eq_nil_of_le (by omega)]
   rfl
end Go.Proofs.YtjicgjhhiallkaaGreatDoorBv
/- Addresses: queries, fragments, paths. No program is in sight. -/
namespace Go.Proofs.YtjicgjhhiallkaaGreatDoorBv
open Go
set_option linter.unusedSimpArgs false
set_option linter.unusedVariables false
theorem decoded_loop (l : List Tunit) (t : Bool) (hl : l.length ≤ 10000000) : ∀ (d i : Nat), i + d = l.length → ∀ m, r4_Decoded_l0 (l, t) (fun out1 => some (byts out1, t)) (m + d + 1) ((l.take i).map uF) l (i : Int) = some (byts (l.map uF), t)
 | 0, i, hi, m => by
  obtain rfl : i = l.length := by omega
  rw [r4_Decoded_l0, if_neg (by simp), List.take_length]
 | d + 1, i, hi, m => by
  have h : i < l.length := by omega
  have tk : l.take (i + 1) = l.take i ++ [l[i]] := by rw [List.take_add_one, List.getElem?_eq_getElem h]; rfl
  have ih := decoded_loop l t hl d (i + 1) (by omega) m
  rw [tk, List.map_append] at ih
  rw [r4_Decoded_l0, if_pos (by simp only [decide_eq_true_eq]; omega), at_some h, Option.bind_some, appq (by simp; omega), Option.bind_some, wi_id (by omega) (by omega), show (i : Int) + 1 = ((i + 1 : Nat) : Int) by omega, show m + (d + 1) = m + d + 1 by omega]
  exact ih
theorem decoded_eq (s : List UInt8) (hl : s.length ≤ 10000000) : r4_Decoded s = match decU s with | some l => some (byts (l.map uF), true) | none => some ([], false) := by
 unfold r4_Decoded
 rw [units_eq s hl]
 cases h : decU s with
 | none =>
  show (some (([] : List Tunit), false)).bind _ = _
  rw [Option.bind_some]
  refine lim_add 1 fun m => ?_
  exact decoded_loop [] false (by simp) 0 0 rfl m
 | some l =>
  have hlen := decU_len s.length s l (Nat.le_refl _) h
  show (some (l, true)).bind _ = _
  rw [Option.bind_some]
  refine lim_add (l.length + 1) fun m => ?_
  exact decoded_loop l true (by omega) l.length 0 (by omega) m

/-! ### queries and fragments -/
def setC (c : UInt8) : Bool := ([33, 36, 38, 39, 40, 41, 42, 43, 44, 59, 61, 58, 64, 47, 63] : List UInt8).contains c
theorem in_set (c : UInt8) : url_in (c.toNat : Int) [33, 36, 38, 39, 40, 41, 42, 43, 44, 59, 61, 58, 64, 47, 63] = some (setC c) := by
 have := u8_all (p := fun c => decide (url_in (c.toNat : Int) [33, 36, 38, 39, 40, 41, 42, 43, 44, 59, 61, 58, 64, 47, 63] = some (setC c))) (by decide +kernel) c
 exact of_decide_eq_true this
theorem set_low (c : UInt8) (h : setC c = true) : c.toNat < 128 := by
 have := u8_all (p := fun c => decide (setC c = true → c.toNat < 128)) (by decide +kernel) c
 exact of_decide_eq_true this h
noncomputable def cu1 (c : UInt8) (t : Bool) : List UInt8 := if plainB c then [c] else if !t && setC c then [c] else tri c
theorem cu1_len (c : UInt8) (t : Bool) : (cu1 c t).length ≤ 3 := by
 unfold cu1
 split
 ·simp
 ·split
  ·simp
  ·rw [(triple_eq c).2]; exact Nat.le_refl _
noncomputable def cuT (u : Tunit) : List UInt8 := cu1 (UInt8.ofNat u.f_c.toNat) u.f_triple
theorem cuT_of (c : UInt8) (t : Bool) : cuT ⟨(c.toNat : Int), t⟩ = cu1 c t := by unfold cuT; simp
theorem decU_range : ∀ (N : Nat) (s : List UInt8) (l : List Tunit), s.length ≤ N → decU s = some l → ∀ u, u ∈ l → ∃ c : UInt8, u.f_c = (c.toNat : Int)
 | _, [], l, _, h, u, hu => by cases h; cases hu
 | 0, c :: r, l, h, _, _, _ => by simp at h
 | N + 1, c :: r, l, hN, h, u, hu => by
  simp only [List.length_cons] at hN
  by_cases hc : c = 37
  ·subst hc
   match r, h, hN with
   | [], h, _ => cases h
   | [d], h, _ => cases h
   | a :: b :: r, h, hN =>
    rw [decU, if_pos rfl] at h
    split at h
    ·cases h
    ·rename_i hvv
     obtain ⟨l', h1, rfl⟩ := Option.map_eq_some_iff.1 h
     simp only [List.length_cons] at hN
     have ha := hv_all a
     have hb := hv_all b
     rcases List.mem_cons.1 hu with rfl | hu
     ·refine ⟨UInt8.ofNat (16 * hv a + hv b).toNat, ?_⟩
      simp
      omega
     ·exact decU_range N r l' (by omega) h1 u hu
  ·rw [decU_plain hc] at h
   obtain ⟨l', h1, rfl⟩ := Option.map_eq_some_iff.1 h
   rcases List.mem_cons.1 hu with rfl | hu
   ·exact ⟨c, rfl⟩
   ·exact decU_range N r l' (by omega) h1 u hu
theorem clean_step (c : UInt8) (n : Int) (s out : List UInt8) (hn : n = 1 ∨ n = 3) (hs : n ≤ s.length) (ho : out.length ≤ 10000000) (self : List UInt8 → List UInt8 → Option (List UInt8 × Bool)) (K : List UInt8 → Option (List UInt8 × Bool)) :
  ((url_plain (c.toNat : Int)).bind fun r_5 =>
    if r_5 then
     url_clean_j12 ((c.toNat : Int), n) s self K out true
    else
     if decide (n = 1) then
      (url_in (c.toNat : Int) [33, 36, 38, 39, 40, 41, 42, 43, 44, 59, 61, 58, 64, 47, 63]).bind fun r_6 =>
      url_clean_j12 ((c.toNat : Int), n) s self K out r_6
     else
      url_clean_j12 ((c.toNat : Int), n) s self K out false) = self (s.drop n.toNat) (out ++ cu1 c (decide (n = 3))) := by
 have hsub : sub? s n (s.length : Int) = some (s.drop n.toNat) := by
  have := sub_drop (l := s) (a := n.toNat) (by omega)
  rwa [show ((n.toNat : Nat) : Int) = n by omega] at this
 have hcl := c.toNat_lt
 have jt : url_clean_j12 ((c.toNat : Int), n) s self K out true = self (s.drop n.toNat) (out ++ [c]) := by
  unfold url_clean_j12 url_clean_j11
  rw [if_pos rfl]
  show (bWriteByte? out (c.toNat : Int)).bind _ = _
  unfold bWriteByte?
  rw [if_pos ⟨by omega, by omega, by omega⟩, Option.bind_some, hsub, Option.bind_some]
  simp
 have jf : url_clean_j12 ((c.toNat : Int), n) s self K out false = self (s.drop n.toNat) (out ++ tri c) := by
  unfold url_clean_j12 url_clean_j11
  rw [if_neg (by simp)]
  simp only
  rw [(triple_eq c).1, Option.bind_some]
  show (bWriteString? out (tri c)).bind _ = _
  unfold bWriteString?
  rw [if_pos (by rw [(triple_eq c).2]; omega), Option.bind_some, hsub, Option.bind_some]
 rw [plain_eq, Option.bind_some, in_set, jt, jf]
 unfold cu1
 cases hp : plainB c with
 | true => rw [if_pos rfl, if_pos rfl]
 | false =>
  rw [if_neg (show ¬ (false = true) by simp), if_neg (show ¬ (false = true) by simp)]
  rcases hn with rfl | rfl
  ·rw [if_pos (by rfl), Option.bind_some, show decide ((1 : Int) = 3) = false by decide, Bool.not_false, Bool.true_and]
   cases setC c with
   | true => rw [jt, if_pos rfl]
   | false => rw [jf, if_neg (by simp)]
  ·rw [if_neg (by decide), show decide ((3 : Int) = 3) = true by decide, if_neg (by simp)]
theorem clean_loop (K : List UInt8 → Option (List UInt8 × Bool)) : ∀ (N : Nat) (s : List UInt8) (out : List UInt8), s.length < N → 3 * s.length + out.length ≤ 10000000 →
  url_clean_l0 K N s out = match decU s with | some l => K (out ++ l.flatMap cuT) | none => some ([], false)
 | 0, s, out, h, _ => by omega
 | N + 1, [], out, h, ho => by
  rw [url_clean_l0, if_neg (by simp)]
  simp [decU]
 | N + 1, c :: r, out, h, ho => by
  simp only [List.length_cons] at h ho
  rw [url_clean_l0, if_pos (by simp)]
  by_cases hc : c = 37
  ·subst hc
   match r, h, ho with
   | [], h, ho => rw [read_short (by simp), Option.bind_some, if_pos (by decide)]; rfl
   | [d], h, ho => rw [read_short (by simp), Option.bind_some, if_pos (by decide)]; rfl
   | a :: b :: r, h, ho =>
    simp only [List.length_cons] at h ho
    have ha := hv_all a
    have hb := hv_all b
    rw [read_tri, decU, if_pos rfl]
    by_cases hbad : hv a < 0 ∨ hv b < 0
    ·rw [if_pos hbad, if_pos hbad, Option.bind_some, if_pos (by decide)]
    ·rw [if_neg hbad, if_neg hbad, Option.bind_some, if_neg (by simp)]
     obtain ⟨x, hx⟩ : ∃ x : UInt8, 16 * hv a + hv b = (x.toNat : Int) := ⟨UInt8.ofNat (16 * hv a + hv b).toNat, by simp; omega⟩
     rw [hx]
     refine (clean_step x 3 (37 :: a :: b :: r) out (.inr rfl) (by simp; omega) (by omega) _ K).trans ?_
     have hl := cu1_len x (decide ((3 : Int) = 3))
     show url_clean_l0 K N r _ = _
     rw [clean_loop K N r _ (by omega) (by rw [List.length_append]; omega)]
     cases decU r with
     | none => rfl
     | some l => simp [cuT_of]
  ·rw [read_plain hc, Option.bind_some, if_neg (by simp)]
   refine (clean_step c 1 (c :: r) out (.inl rfl) (by simp; omega) (by omega) _ K).trans ?_
   have hl := cu1_len c (decide ((1 : Int) = 3))
   show url_clean_l0 K N r _ = _
   rw [clean_loop K N r _ (by omega) (by rw [List.length_append]; omega), decU_plain hc]
   cases decU r with
   | none => rfl
   | some l => simp [cuT_of]
noncomputable def cleanS (s : List UInt8) : List UInt8 × Bool := match decU s with | some l => (l.flatMap cuT, true) | none => ([], false)
theorem clean_eq (s : List UInt8) (hl : s.length ≤ 1000000) : url_clean s = some (cleanS s) := by
 unfold url_clean cleanS
 refine lim_eq (s.length + 1) fun k hk => ?_
 rw [clean_loop _ k s [] (by omega) (by simp; omega)]
 cases decU s with
 | none => rfl
 | some l => rfl
theorem enc_one (c : UInt8) : r4_Encoded [c] = some (enc1 c) := by
 rw [encoded_eq [c] (by simp)]
 unfold encL
 simp
theorem flat_len (l : List Tunit) : (l.flatMap cuT).length ≤ 3 * l.length := by
 induction l with
 | nil => simp
 | cons u r ih =>
  rw [List.flatMap_cons, List.length_append, List.length_cons]
  have : (cuT u).length ≤ 3 := cu1_len _ _
  omega
theorem cleaned_loop (l : List Tunit) (t : Bool) (hl : l.length ≤ 1000000) (hr : ∀ u, u ∈ l → ∃ c : UInt8, u.f_c = (c.toNat : Int)) : ∀ (d i : Nat), i + d = l.length → ∀ m, r4_Cleaned_l0 (l, t) (fun out1 => some (out1, t)) (m + d + 1) ((l.take i).flatMap cuT) l (i : Int) = some (l.flatMap cuT, t)
 | 0, i, hi, m => by
  obtain rfl : i = l.length := by omega
  rw [r4_Cleaned_l0, if_neg (by simp), List.take_length]
 | d + 1, i, hi, m => by
  have h : i < l.length := by omega
  have tk : l.take (i + 1) = l.take i ++ [l[i]] := by rw [List.take_add_one, List.getElem?_eq_getElem h]; rfl
  have ih := cleaned_loop l t hl hr d (i + 1) (by omega) m
  obtain ⟨c, hc⟩ := hr l[i] (List.getElem_mem h)
  have hcu : cuT l[i] = cu1 c l[i].f_triple := by unfold cuT; rw [hc]; simp
  have ho := flat_len (l.take i)
  rw [List.length_take] at ho
  have h3 := cu1_len c l[i].f_triple
  rw [tk, List.flatMap_append, List.flatMap_cons, List.flatMap_nil, List.append_nil, hcu] at ih
  rw [r4_Cleaned_l0, if_pos (by simp only [decide_eq_true_eq]; omega), at_some h, Option.bind_some, hc, isPlain_eq, Option.bind_some]
  have jt : r4_Cleaned_j12 ((l.take i).flatMap cuT) l[i] (i : Int) (l, t) (r4_Cleaned_l0 (l, t) (fun out1 => some (out1, t)) (m + (d + 1))) (fun out1 => some (out1, t)) l true = r4_Cleaned_l0 (l, t) (fun out1 => some (out1, t)) (m + d + 1) ((l.take i).flatMap cuT ++ [c]) l ((i + 1 : Nat) : Int) := by
   unfold r4_Cleaned_j12 r4_Cleaned_j11
   rw [if_pos rfl, hc, byts_one, catq (by rw [List.length_cons, List.length_nil]; omega), Option.bind_some, wi_id (by omega) (by omega)]
   rfl
  have jf : r4_Cleaned_j12 ((l.take i).flatMap cuT) l[i] (i : Int) (l, t) (r4_Cleaned_l0 (l, t) (fun out1 => some (out1, t)) (m + (d + 1))) (fun out1 => some (out1, t)) l false = r4_Cleaned_l0 (l, t) (fun out1 => some (out1, t)) (m + d + 1) ((l.take i).flatMap cuT ++ enc1 c) l ((i + 1 : Nat) : Int) := by
   have := enc1_len c
   unfold r4_Cleaned_j12 r4_Cleaned_j11
   rw [if_neg (by simp), hc, byts_one, enc_one, Option.bind_some, catq (by omega), Option.bind_some, wi_id (by omega) (by omega)]
   rfl
  rw [jf]
  unfold cu1 at ih
  have e128 : decide ((c.toNat : Int) < 128) = decide (c.toNat < 128) := decide_eq_decide.2 (by omega)
  rw [e128]
  cases hp : plainB c with
  | true =>
   rw [hp, if_pos rfl] at ih
   have e1 : enc1 c = [c] := by unfold enc1; rw [hp, if_pos rfl]
   rw [if_neg (by simp), e1]
   exact ih
  | false =>
   rw [hp, if_neg (by simp)] at ih
   have e1 : enc1 c = tri c := by unfold enc1; rw [hp, if_neg (by simp)]
   rw [e1]
   cases ht : l[i].f_triple with
   | true =>
    rw [ht, if_neg (by simp)] at ih
    rw [if_neg (by simp)]
    exact ih
   | false =>
    rw [ht] at ih
    by_cases h128 : c.toNat < 128
    ·rw [if_pos (by simpa using h128), byts_one]
     show (contains? _ [c]).bind _ = _
     rw [con_one, Option.bind_some]
     cases hs : setC c with
     | true =>
      rw [hs, if_pos (by rfl)] at ih
      rw [show ([33, 36, 38, 39, 40, 41, 42, 43, 44, 59, 61, 58, 64, 47, 63] : List UInt8).contains c = true from hs, jt]
      exact ih
     | false =>
      rw [hs, if_neg (by simp)] at ih
      rw [show ([33, 36, 38, 39, 40, 41, 42, 43, 44, 59, 61, 58, 64, 47, 63] : List UInt8).contains c = false from hs, jf, e1]
      exact ih
    ·have hs : setC c = false := by
      cases hs : setC c with
      | false => rfl
      | true => exact absurd (set_low c hs) h128
     rw [hs, if_neg (by simp)] at ih
     rw [if_neg (by simpa using h128)]
     exact ih
theorem cleaned_eq (s : List UInt8) (hl : s.length ≤ 1000000) : r4_Cleaned s = some (cleanS s) := by
 unfold r4_Cleaned cleanS
 rw [units_eq s (by omega)]
 cases h : decU s with
 | none =>
  show (some (([] : List Tunit), false)).bind _ = _
  rw [Option.bind_some]
  refine lim_add 1 fun m => ?_
  exact cleaned_loop [] false (by simp) (fun u hu => by cases hu) 0 0 rfl m
 | some l =>
  have hlen := decU_len s.length s l (Nat.le_refl _) h
  show (some (l, true)).bind _ = _
  rw [Option.bind_some]
  refine lim_add (l.length + 1) fun m => ?_
  exact cleaned_loop l true (by omega) (decU_range s.length s l (Nat.le_refl _) h) l.length 0 (by omega) m
/-! ### tails -/
noncomputable def tailS (u : TJUrl) (s : List UInt8) : List UInt8 × Bool × TJUrl :=
 let q := from' [63] (upTo [35] s)
 let f := from' [35] s
 (upTo [63] (upTo [35] s), ((cleanS (q.drop 1)).2 && (cleanS (f.drop 1)).2), ⟨u.Scheme, u.Host, u.Port, u.Path, (cleanS (q.drop 1)).1, !q.isEmpty, (cleanS (f.drop 1)).1, !f.isEmpty⟩)
theorem tail_eq (u : TJUrl) (s : List UInt8) (hl : s.length ≤ 1000000) : url_tail1 u s = some (tailS u s) := by
 have h1 := upTo_le [35] s
 have h2 := from_le [35] s
 have h3 := from_le [63] (upTo [35] s)
 unfold url_tail1 tailS
 show (cut? s [35]).bind _ = _
 unfold cut?
 rw [if_pos (by omega), Option.bind_some, cut_eq']
 show (cut? (upTo [35] s) [63]).bind _ = _
 unfold cut?
 rw [if_pos (by omega), Option.bind_some, cut_eq']
 simp only
 rw [clean_eq _ (by rw [List.length_drop]; omega), Option.bind_some, clean_eq _ (by rw [List.length_drop]; omega), Option.bind_some]
theorem trim_from (c : UInt8) (s : List UInt8) : strings_TrimPrefix (from' [c] s) [c] = some ((from' [c] s).drop 1) := by
 rw [trimPre_eq]
 rcases drop_head s c with h | ⟨r, h⟩
 ·rw [show from' [c] s = [] from h]; rfl
 ·rw [show from' [c] s = c :: r from h, if_pos (by simp)]
  rfl
theorem tailOf_eq (u : TJUrl) (s : List UInt8) (hl : s.length ≤ 1000000) : r4_TailOf1 u s = some (tailS u s) := by
 have h1 := upTo_le [35] s
 have h2 := from_le [35] s
 have h3 := from_le [63] (upTo [35] s)
 have low : ∀ b : UInt8, b.toNat < 128 → ∀ c, c ∈ [b] → c.toNat < 128 := fun b hb c hc => by rw [List.mem_singleton] at hc; subst hc; exact hb
 unfold r4_TailOf1 tailS
 rw [parted_eq' s [35] (by omega) (low 35 (by decide)), Option.bind_some, parted_eq' (upTo [35] s) [63] (by omega) (low 63 (by decide)), Option.bind_some]
 simp only
 rw [trim_from, Option.bind_some, cleaned_eq _ (by rw [List.length_drop]; omega), Option.bind_some, trim_from, Option.bind_some, cleaned_eq _ (by rw [List.length_drop]; omega), Option.bind_some]
 have e : ∀ l : List UInt8, (!decide (l = [])) = !l.isEmpty := fun l => by cases l <;> rfl
 rw [e, e]
end Go.Proofs.YtjicgjhhiallkaaGreatDoorBv
/- Addresses: paths; a text as an address. No program is in sight. -/
namespace Go.Proofs.YtjicgjhhiallkaaGreatDoorBv
open Go
set_option linter.unusedSimpArgs false
set_option linter.unusedVariables false
/-! ### segments -/
noncomputable def dec1 (p : List UInt8) : Option (List UInt8) := (decU p).map fun l => byts (l.map uF)
noncomputable def segL : List (List UInt8) → Option (List (List UInt8))
 | [] => some []
 | p :: r => (dec1 p).bind fun d => (segL r).map (d :: ·)
theorem decode1 (p : List UInt8) (hl : p.length ≤ 1000000) : url_Decode p = some (match dec1 p with | some d => (d, 0) | none => ([], 3)) := by
 rw [decode_eq p (by omega)]
 unfold dec1
 cases decU p <;> rfl
theorem decoded1 (p : List UInt8) (hl : p.length ≤ 1000000) : r4_Decoded p = some (match dec1 p with | some d => (d, true) | none => ([], false)) := by
 rw [decoded_eq p (by omega)]
 unfold dec1
 cases decU p <;> rfl
theorem seg_l0 (r : List (List UInt8)) (hl : r.length ≤ 1000000) (hm : ∀ p, p ∈ r → p.length ≤ 1000000) : ∀ (N i : Nat) (out : List (List UInt8)), r.length - i < N → i ≤ r.length → out.length ≤ i →
  url_segments_l0 r (fun out1 => some (out1, true)) N out r (i : Int) = some (match segL (r.drop i) with | some l => (out ++ l, true) | none => ([], false))
 | 0, i, out, hN, hi, ho => by omega
 | N + 1, i, out, hN, hi, ho => by
  rw [url_segments_l0]
  by_cases h : i < r.length
  ·rw [if_pos (by simp only [decide_eq_true_eq]; omega), at_some h, Option.bind_some, decode1 _ (hm _ (List.getElem_mem h)), Option.bind_some, List.drop_eq_getElem_cons h, segL]
   cases hd : dec1 r[i] with
   | none => rw [if_pos (by simp)]; rfl
   | some d =>
    rw [if_neg (by simp)]
    simp only
    rw [appq (by simp; omega), Option.bind_some, wi_id (by omega) (by omega), show (i : Int) + 1 = ((i + 1 : Nat) : Int) by omega, seg_l0 r hl hm N (i + 1) _ (by omega) (by omega) (by simp; omega), Option.bind_some]
    cases segL (r.drop (i + 1)) with
    | none => rfl
    | some l => simp
  ·rw [if_neg (by simp only [decide_eq_true_eq]; omega), List.drop_eq_nil_of_le (by omega), segL]
   simp
noncomputable def segS (s : List UInt8) : Option (List (List UInt8)) := segL (cutB 47 s)
theorem segments_eq (s : List UInt8) (hl : s.length ≤ 100000) : url_segments s = some (match segS s with | some l => (l, true) | none => ([], false)) := by
 unfold url_segments segS
 show (split? s [47]).bind _ = _
 have hc := cutB_length 47 s
 rw [split_one (by omega), Option.bind_some]
 refine lim_eq ((cutB 47 s).length + 1) fun k hk => ?_
 have := seg_l0 (cutB 47 s) (by omega) (fun p hp => by have := (cutB_mem hp).2; omega) k 0 [] (by omega) (by omega) (by simp)
 rw [List.drop_zero] at this
 exact this
noncomputable def decOr (p : List UInt8) : List UInt8 := (dec1 p).getD []
theorem segL_some : ∀ (r l : List (List UInt8)), segL r = some l → l = r.map decOr
 | [], l, h => by cases h; rfl
 | p :: r, l, h => by
  rw [segL] at h
  obtain ⟨d, hd, h⟩ := Option.bind_eq_some_iff.1 h
  obtain ⟨l', h1, rfl⟩ := Option.map_eq_some_iff.1 h
  rw [List.map_cons, ← segL_some r l' h1]
  congr 1
  unfold decOr
  rw [hd]
  rfl
theorem segOf_l0 (r : List (List UInt8)) (hl : r.length ≤ 1000000) (hm : ∀ p, p ∈ r → p.length ≤ 1000000) : ∀ (N i : Nat) (all : Bool) (out : List (List UInt8)), r.length - i < N → i ≤ r.length → out.length ≤ i →
  r4_segmentsOf_l0 r (fun a o => some (o, a)) N all out r (i : Int) = some (out ++ (r.drop i).map decOr, all && (segL (r.drop i)).isSome)
 | 0, i, all, out, hN, hi, ho => by omega
 | N + 1, i, all, out, hN, hi, ho => by
  rw [r4_segmentsOf_l0]
  by_cases h : i < r.length
  ·rw [if_pos (by simp only [decide_eq_true_eq]; omega), at_some h, Option.bind_some, decoded1 _ (hm _ (List.getElem_mem h)), Option.bind_some, List.drop_eq_getElem_cons h, segL, List.map_cons]
   cases hd : dec1 r[i] with
   | none =>
    simp only
    rw [appq (by simp; omega), Option.bind_some, wi_id (by omega) (by omega), show (i : Int) + 1 = ((i + 1 : Nat) : Int) by omega, segOf_l0 r hl hm N (i + 1) (all && false) (out ++ [[]]) (by omega) (by omega) (by simp; omega)]
    have e : decOr r[i] = [] := by unfold decOr; rw [hd]; rfl
    rw [e]
    simp
   | some d =>
    simp only
    rw [appq (by simp; omega), Option.bind_some, wi_id (by omega) (by omega), show (i : Int) + 1 = ((i + 1 : Nat) : Int) by omega, segOf_l0 r hl hm N (i + 1) (all && true) (out ++ [d]) (by omega) (by omega) (by simp; omega)]
    have e : decOr r[i] = d := by unfold decOr; rw [hd]; rfl
    rw [e]
    simp
  ·rw [if_neg (by simp only [decide_eq_true_eq]; omega), List.drop_eq_nil_of_le (by omega), segL]
   simp
theorem segOf_eq (s : List UInt8) (hl : s.length ≤ 100000) : r4_segmentsOf s = some ((cutB 47 s).map decOr, (segS s).isSome) := by
 unfold r4_segmentsOf segS
 show (split? s [47]).bind _ = _
 have hc := cutB_length 47 s
 rw [split_one (by omega), Option.bind_some]
 refine lim_eq ((cutB 47 s).length + 1) fun k hk => ?_
 have := segOf_l0 (cutB 47 s) (by omega) (fun p hp => by have := (cutB_mem hp).2; omega) k 0 true [] (by omega) (by omega) (by simp)
 rw [List.drop_zero] at this
 exact this
theorem segL_len : ∀ (r l : List (List UInt8)), segL r = some l → l.length = r.length := fun r l h => by rw [segL_some r l h, List.length_map]
/-! ### tidied -/
def dotty (x : List UInt8) : Bool := decide (x = [46]) || decide (x = [46, 46])
def tstep (out : List (List UInt8)) (x : List UInt8) : List (List UInt8) := if dotty x then (if x = [46, 46] ∧ out ≠ [] then out.take (out.length - 1) else out) else out ++ [x]
theorem tstep_len (out : List (List UInt8)) (x : List UInt8) : (tstep out x).length ≤ out.length + 1 := by
 unfold tstep
 split
 ·split
  ·rw [List.length_take]; omega
  ·omega
 ·simp
def tgo : List (List UInt8) → List (List UInt8) → List (List UInt8)
 | out, [] => out
 | out, [x] => if dotty x then tstep out x ++ [[]] else tstep out x
 | out, x :: y :: r => tgo (tstep out x) (y :: r)
theorem pos_ne {α : Type} (out : List α) : decide (0 < (out.length : Int)) = decide (out ≠ []) := by
 cases out <;> simp
theorem tidy_l0 (l : List (List UInt8)) (hl : l.length ≤ 1000000) (K : List (List UInt8) → Option (List (List UInt8))) : ∀ (N i : Nat) (out : List (List UInt8)), l.length - i < N → i ≤ l.length → out.length ≤ i →
  url_tidy_l0 l K N out (i : Int) = K (tgo out (l.drop i))
 | 0, i, out, hN, hi, ho => by omega
 | N + 1, i, out, hN, hi, ho => by
  rw [url_tidy_l0]
  by_cases h : i < l.length
  ·have hs := tstep_len out l[i]
   have last : decide ((i : Int) = wi ((l.length : Int) - 1)) = decide (i + 1 = l.length) := by
    rw [wi_id (by omega) (by omega)]
    exact decide_eq_decide.2 (by omega)
   have ih : ∀ o : List (List UInt8), o.length ≤ i + 1 → url_tidy_l0 l K N o ((i + 1 : Nat) : Int) = K (tgo o (l.drop (i + 1))) := fun o h => tidy_l0 l hl K N (i + 1) o (by omega) (by omega) (by omega)
   have j11 : ∀ o : List (List UInt8), url_tidy_j11 (i : Int) l (url_tidy_l0 l K N) K o = url_tidy_l0 l K N o ((i + 1 : Nat) : Int) := by
    intro o
    unfold url_tidy_j11
    rw [wi_id (by omega) (by omega)]; rfl
   have goal : K (tgo out (l.drop i)) = if dotty l[i] = true ∧ i + 1 = l.length then K (tstep out l[i] ++ [[]]) else K (tgo (tstep out l[i]) (l.drop (i + 1))) := by
    rw [List.drop_eq_getElem_cons h]
    by_cases hlast : i + 1 = l.length
    ·rw [List.drop_eq_nil_of_le (by omega), tgo, tgo]
     cases dotty l[i] with
     | true => rw [if_pos rfl, if_pos ⟨rfl, hlast⟩]
     | false => rw [if_neg (by simp), if_neg (by simp)]
    ·rw [if_neg (by simp [hlast])]
     rw [List.drop_eq_getElem_cons (show i + 1 < l.length by omega), tgo]
   have j12 : ∀ o : List (List UInt8), o = tstep out l[i] → o.length ≤ i → dotty l[i] = true → url_tidy_j12 (i : Int) l (url_tidy_l0 l K N) K o = K (tgo out (l.drop i)) := by
    rintro o rfl h2 hd
    unfold url_tidy_j12
    rw [goal, last]
    by_cases hlast : i + 1 = l.length
    ·rw [if_pos (by simpa using hlast), appq (by simp; omega), Option.bind_some, j11, ih _ (by simp; omega), if_pos ⟨hd, hlast⟩, List.drop_eq_nil_of_le (by omega), tgo]
    ·rw [if_neg (by simpa using hlast), j11, ih _ (by omega), if_neg (by simp [hlast])]
   rw [if_pos (by simp only [decide_eq_true_eq]; omega), at_some h, Option.bind_some, pos_ne]
   by_cases hd : dotty l[i] = true
   ·have hn : ((!decide (l[i] = [46])) && (!decide (l[i] = [46, 46]))) = false := by
     unfold dotty at hd
     revert hd
     cases decide (l[i] = [46]) <;> cases decide (l[i] = [46, 46]) <;> simp
    rw [hn, if_neg (by simp)]
    by_cases h2 : l[i] = [46, 46] ∧ out ≠ []
    ·have hlen : 1 ≤ out.length := by
      cases out with
      | nil => exact absurd rfl h2.2
      | cons a b => simp
     have hsub : sub? out 0 (wi ((out.length : Int) - 1)) = some (out.take (out.length - 1)) := by
      rw [wi_id (by omega) (by omega), show (out.length : Int) - 1 = ((out.length - 1 : Nat) : Int) by omega, sub_take (by omega)]
     rw [if_pos (by simp [h2.1, h2.2]), hsub, Option.bind_some]
     exact j12 _ (by unfold tstep; rw [if_pos hd, if_pos h2]) (by rw [List.length_take]; omega) hd
    ·rw [if_neg (by simpa using h2)]
     exact j12 _ (by unfold tstep; rw [if_pos hd, if_neg h2]) (by omega) hd
   ·have hn : ((!decide (l[i] = [46])) && (!decide (l[i] = [46, 46]))) = true := by
     unfold dotty at hd
     revert hd
     cases decide (l[i] = [46]) <;> cases decide (l[i] = [46, 46]) <;> simp
    have e : tstep out l[i] = out ++ [l[i]] := by unfold tstep; rw [if_neg hd]
    rw [hn, if_pos rfl, appq (by simp; omega), Option.bind_some, j11, ih _ (by simp; omega), goal, if_neg (fun hh => hd hh.1), e]
  ·rw [if_neg (by simp only [decide_eq_true_eq]; omega), List.drop_eq_nil_of_le (by omega), tgo]
theorem tidied_l0 (l : List (List UInt8)) (hl : l.length ≤ 1000000) (K : List (List UInt8) → Option (List (List UInt8))) : ∀ (N i : Nat) (out : List (List UInt8)), l.length - i < N → i ≤ l.length → out.length ≤ i →
  r4_Tidied_l0 l K N out (i : Int) = K ((l.drop i).foldl tstep out)
 | 0, i, out, hN, hi, ho => by omega
 | N + 1, i, out, hN, hi, ho => by
  rw [r4_Tidied_l0]
  by_cases h : i < l.length
  ·have hs := tstep_len out l[i]
   have ih := tidied_l0 l hl K N (i + 1) (tstep out l[i]) (by omega) (by omega) (by omega)
   have j3 : ∀ o : List (List UInt8), o = tstep out l[i] → r4_Tidied_j3 (i : Int) l (r4_Tidied_l0 l K N) K o = K ((l.drop i).foldl tstep out) := by
    rintro o rfl
    unfold r4_Tidied_j3
    rw [wi_id (by omega) (by omega), show (i : Int) + 1 = ((i + 1 : Nat) : Int) by omega, ih, List.drop_eq_getElem_cons h, List.foldl_cons]
   rw [if_pos (by simp only [decide_eq_true_eq]; omega), at_some h, Option.bind_some, pos_ne]
   by_cases h2 : l[i] = [46, 46] ∧ out ≠ []
   ·have hlen : 1 ≤ out.length := by
     cases out with
     | nil => exact absurd rfl h2.2
     | cons a b => simp
    have hsub : sub? out 0 (wi ((out.length : Int) - 1)) = some (out.take (out.length - 1)) := by
     rw [wi_id (by omega) (by omega), show (out.length : Int) - 1 = ((out.length - 1 : Nat) : Int) by omega, sub_take (by omega)]
    rw [if_pos (by simp [h2.1, h2.2]), hsub, Option.bind_some]
    exact j3 _ (by unfold tstep; rw [if_pos (by unfold dotty; simp [h2.1]), if_pos h2])
   ·rw [if_neg (by simpa using h2)]
    by_cases hd : dotty l[i] = true
    ·have hn : ((!decide (l[i] = [46])) && (!decide (l[i] = [46, 46]))) = false := by
      unfold dotty at hd
      revert hd
      cases decide (l[i] = [46]) <;> cases decide (l[i] = [46, 46]) <;> simp
     rw [hn, if_neg (by simp)]
     exact j3 _ (by unfold tstep; rw [if_pos hd, if_neg h2])
    ·have hn : ((!decide (l[i] = [46])) && (!decide (l[i] = [46, 46]))) = true := by
      unfold dotty at hd
      revert hd
      cases decide (l[i] = [46]) <;> cases decide (l[i] = [46, 46]) <;> simp
     rw [hn, if_pos rfl, appq (by simp; omega), Option.bind_some]
     exact j3 _ (by unfold tstep; rw [if_neg hd])
  ·rw [if_neg (by simp only [decide_eq_true_eq]; omega), List.drop_eq_nil_of_le (by omega)]
   rfl
theorem tgo_fold : ∀ (l out : List (List UInt8)), tgo out l = match l.getLast? with | some x => if dotty x then l.foldl tstep out ++ [[]] else l.foldl tstep out | none => out
 | [], out => rfl
 | [x], out => rfl
 | x :: y :: r, out => by
  rw [tgo, tgo_fold (y :: r) (tstep out x), List.getLast?_cons_cons]
  simp only [List.foldl_cons]
  cases h : (y :: r).getLast? with
  | none => simp at h
  | some z => rfl
theorem fold_len : ∀ (l out : List (List UInt8)), (l.foldl tstep out).length ≤ out.length + l.length
 | [], out => by simp
 | x :: r, out => by
  have h1 := fold_len r (tstep out x)
  have h2 := tstep_len out x
  rw [List.foldl_cons, List.length_cons]
  omega
theorem len0 {α : Type} (o : List α) [DecidableEq α] : decide ((o.length : Int) = 0) = decide (o = []) := decide_eq_decide.2 ⟨fun h => List.length_eq_zero_iff.1 (by omega), fun h => by subst h; rfl⟩
def tidyS (l : List (List UInt8)) : List (List UInt8) := if tgo [] l = [] then [[]] else tgo [] l
theorem tidy_eq (l : List (List UInt8)) (hl : l.length ≤ 1000000) : url_tidy l = some (tidyS l) := by
 unfold url_tidy tidyS
 refine lim_eq (l.length + 1) fun k hk => ?_
 refine (tidy_l0 l hl _ k 0 [] (by omega) (by omega) (by simp)).trans ?_
 rw [List.drop_zero]
 unfold url_tidy_j13
 rw [len0]
 by_cases h : tgo [] l = []
 ·rw [if_pos (by simpa using h), if_pos h]
 ·rw [if_neg (by simpa using h), if_neg h]
theorem tidied_eq (l : List (List UInt8)) (hl : l.length ≤ 1000000) : r4_Tidied l = some (tidyS l) := by
 unfold r4_Tidied tidyS
 refine lim_eq (l.length + 1) fun k hk => ?_
 refine (tidied_l0 l hl _ k 0 [] (by omega) (by omega) (by simp)).trans ?_
 rw [List.drop_zero, tgo_fold]
 have hf := fold_len l []
 rw [List.length_nil] at hf
 have app : ∀ o : List (List UInt8), o.length ≤ 1000000 → ∀ b : Bool, r4_Tidied_j7 o b = some (if b then o ++ [[]] else o) := by
  intro o ho b
  unfold r4_Tidied_j7 r4_Tidied_j6
  cases b with
  | true => rw [if_pos rfl, appq (by simp; omega), Option.bind_some, if_pos rfl]
  | false => rw [if_neg (by simp), if_neg (by simp)]
 cases hx : l.getLast? with
 | none =>
  have : l = [] := by simpa using hx
  subst this
  rfl
 | some x =>
  have hne : l ≠ [] := by rintro rfl; simp at hx
  have hpos : 0 < l.length := List.length_pos_iff.2 hne
  have hlast : at? l (wi ((l.length : Int) - 1)) = some x := by
   rw [wi_id (by omega) (by omega), show (l.length : Int) - 1 = ((l.length - 1 : Nat) : Int) by omega, at_nat, ← List.getLast?_eq_getElem?]
   exact hx
  rw [if_pos (by simp only [decide_eq_true_eq]; omega), hlast, Option.bind_some, Option.bind_some, app _ (by omega), app _ (by omega), len0]
  simp only
  generalize l.foldl tstep [] = o
  have nn : o ++ [[]] ≠ ([] : List (List UInt8)) := by simp
  by_cases h1 : x = [46]
  ·have hd : dotty x = true := by unfold dotty; simp [h1]
   rw [hd, if_pos (by simpa using h1), if_pos rfl, if_neg nn]
   simp
  ·rw [if_neg (by simpa using h1)]
   by_cases h2 : x = [46, 46]
   ·have hd : dotty x = true := by unfold dotty; simp [h2]
    rw [hd, show decide (x = [46, 46]) = true by simpa using h2, Bool.true_or, if_pos rfl, if_neg nn]
   ·have hd : dotty x = false := by unfold dotty; simp [h1, h2]
    rw [hd, show decide (x = [46, 46]) = false by simpa using h2, Bool.false_or, if_neg (show ¬ (false = true) by simp)]
    by_cases ho : o = []
    ·rw [if_pos (by simpa using ho), if_pos ho, ho]; rfl
    ·rw [if_neg (by simpa using ho), if_neg ho]
end Go.Proofs.YtjicgjhhiallkaaGreatDoorBv
/- A text as an address: the program's and the document's answers are one. No program is in sight. -/
namespace Go.Proofs.YtjicgjhhiallkaaGreatDoorBv
open Go
set_option linter.unusedSimpArgs false
set_option linter.unusedVariables false
abbrev noU : TJUrl := ⟨[], [], 0, [], [], false, [], false⟩
/-- the rest of a text behind its place -/
noncomputable def endS (t h : List UInt8) (n : Int) (s : List UInt8) : TJUrl × Int :=
 let r := tailS ⟨t, h, n, [], [], false, [], false⟩ s
 let p := if r.1.take 1 = [47] then r.1.drop 1 else r.1
 match segS p with
 | some l => if r.2.1 then (⟨t, h, n, tidyS l, r.2.2.Query, r.2.2.Asks, r.2.2.Fragment, r.2.2.Points⟩, 0) else (noU, 3)
 | none => (noU, 3)
noncomputable def addrS (s : List UInt8) : TJUrl × Int :=
 if 500 < s.length then (noU, 2) else
 match sK true s with
 | none => (noU, 3)
 | some k =>
  let t := (s.take k).map loB
  let r := s.drop (k + 1)
  if r.take 2 = [47, 47] then
   match placeS t (upTo [47, 63, 35] (r.drop 2)) with
   | some (h, n) => endS t h n (from' [47, 63, 35] (r.drop 2))
   | none => (noU, 3)
  else (noU, 3)
theorem seg_len {s : List UInt8} {l : List (List UInt8)} (h : segS s = some l) : l.length ≤ s.length + 1 := by
 have h1 := segL_len _ _ h
 have h2 := cutB_length 47 s
 omega
theorem parse_end (t h : List UInt8) (n : Int) (s : List UInt8) (hl : s.length ≤ 1000) (u' : TJUrl) (hu : u' = ⟨t, h, n, [], [], false, [], false⟩) :
  ((url_tail1 u' s).bind fun r_6 =>
  (strings_TrimPrefix r_6.1 [47]).bind fun r_7 =>
  (url_segments r_7).bind fun r_8 =>
  if ((!r_6.2.1) || (!r_8.2)) then
   some ((⟨[], [], 0, [], [], false, [], false⟩ : TJUrl), (3 : Int))
  else
   (url_tidy r_8.1).bind fun r_9 =>
   some ((⟨r_6.2.2.Scheme, r_6.2.2.Host, r_6.2.2.Port, r_9, r_6.2.2.Query, r_6.2.2.Asks, r_6.2.2.Fragment, r_6.2.2.Points⟩ : TJUrl), 0)) = some (endS t h n s) := by
 subst hu
 have h1 := upTo_le [35] s
 have h2 := upTo_le [63] (upTo [35] s)
 rw [tail_eq _ s (by omega), Option.bind_some, trimPre_eq, Option.bind_some]
 unfold endS
 simp only [List.length_cons, List.length_nil, Nat.zero_add]
 have hp : (if (tailS ⟨t, h, n, [], [], false, [], false⟩ s).1.take 1 = [47] then (tailS ⟨t, h, n, [], [], false, [], false⟩ s).1.drop 1 else (tailS ⟨t, h, n, [], [], false, [], false⟩ s).1).length ≤ 1000 := by
  have : (tailS ⟨t, h, n, [], [], false, [], false⟩ s).1.length ≤ 1000 := by show (upTo [63] (upTo [35] s)).length ≤ 1000; omega
  split
  ·rw [List.length_drop]; omega
  ·exact this
 generalize (if (tailS ⟨t, h, n, [], [], false, [], false⟩ s).1.take 1 = [47] then (tailS ⟨t, h, n, [], [], false, [], false⟩ s).1.drop 1 else (tailS ⟨t, h, n, [], [], false, [], false⟩ s).1) = p at hp ⊢
 rw [segments_eq p (by omega), Option.bind_some]
 cases hs : segS p with
 | none => simp
 | some l =>
  have hll := seg_len hs
  simp only
  rw [tidy_eq l (by omega), Option.bind_some]
  cases (tailS ⟨t, h, n, [], [], false, [], false⟩ s).2.1 with
  | true => simp; exact ⟨rfl, rfl, rfl⟩
  | false => simp
theorem parse_eq (s : List UInt8) : url_Parse s = some (addrS s) := by
 unfold url_Parse addrS
 by_cases h500 : 500 < s.length
 ·rw [if_pos (by simp only [decide_eq_true_eq]; omega), if_pos h500]
 rw [if_neg (by simp only [decide_eq_true_eq]; omega), if_neg h500, scheme_eq s (by omega), Option.bind_some, cutPre_eq, Option.bind_some]
 unfold schemeS
 cases hk : sK true s with
 | none => simp
 | some k =>
  simp only [List.length_cons, List.length_nil, Nat.zero_add]
  generalize hr : s.drop (k + 1) = r
  have hrl : r.length ≤ 500 := by rw [← hr, List.length_drop]; omega
  generalize (s.take k).map loB = t
  by_cases h2 : r.take 2 = [47, 47]
  ·rw [if_pos h2, if_pos h2, if_neg (by simp)]
   simp only
   generalize hx : r.drop 2 = x
   have hxl : x.length ≤ 500 := by rw [← hx, List.length_drop]; omega
   show (indexAny? x [47, 63, 35]).bind _ = _
   unfold indexAny?
   rw [if_pos ⟨by omega, by decide, by decide⟩, Option.bind_some, indexAny_eq']
   have tx := dropWhile_take (fun c : UInt8 => !([47, 63, 35] : List UInt8).contains c) x
   have e1 : x.take (upTo [47, 63, 35] x).length = upTo [47, 63, 35] x := take_takeWhile _ x
   have e2 : x.drop (upTo [47, 63, 35] x).length = from' [47, 63, 35] x := drop_takeWhile _ x
   have hup := upTo_le [47, 63, 35] x
   have hfr := from_le [47, 63, 35] x
   have key : url_Parse_j1 (x, true) (t, r, true) ((upTo [47, 63, 35] x).length : Int) = some (match placeS t (upTo [47, 63, 35] x) with
     | some (h, n) => endS t h n (from' [47, 63, 35] x)
     | none => (noU, 3)) := by
    unfold url_Parse_j1
    simp only
    rw [sub_take hup, Option.bind_some, e1]
    obtain ⟨u', hu1, hu2⟩ := place1_eq ⟨t, [], 0, [], [], false, [], false⟩ (upTo [47, 63, 35] x) (by omega) rfl
    rw [hu1, Option.bind_some]
    simp only at hu2 ⊢
    cases hp : placeS t (upTo [47, 63, 35] x) with
    | none => simp
    | some hn =>
     obtain ⟨h, n⟩ := hn
     rw [if_neg (by simp), sub_drop hup, Option.bind_some, e2]
     exact parse_end t h n _ (by omega) u' (hu2 h n hp)
   by_cases hf : from' [47, 63, 35] x = []
   ·have hlen : (upTo [47, 63, 35] x).length = x.length := by
     have : (from' [47, 63, 35] x).length = 0 := by rw [hf]; rfl
     have tx' : (upTo [47, 63, 35] x).length + (from' [47, 63, 35] x).length = x.length := tx
     omega
    rw [if_pos hf, if_pos (by decide), ← hlen]
    exact key
   ·rw [if_neg hf, if_neg (by simp)]
    exact key
  ·rw [if_neg h2, if_neg h2, if_pos (by simp)]
theorem trim_take (s : List UInt8) : strings_TrimPrefix s [47] = some (if s.take 1 = [47] then s.drop 1 else s) := trimPre_eq s [47]
theorem addr_j2 (t h : List UInt8) (n : Int) (p s : List UInt8) (hl : s.length ≤ 1000) (b : Bool) : r4_Addressed_j2 (t, b) h (p, s) n = some (endS t h n s) := by
 have h1 := upTo_le [35] s
 have h2 := upTo_le [63] (upTo [35] s)
 unfold r4_Addressed_j2
 simp only
 rw [tailOf_eq _ s (by omega), Option.bind_some, trim_take, Option.bind_some]
 unfold endS
 simp only
 have hp : (if (tailS ⟨t, h, n, [], [], false, [], false⟩ s).1.take 1 = [47] then (tailS ⟨t, h, n, [], [], false, [], false⟩ s).1.drop 1 else (tailS ⟨t, h, n, [], [], false, [], false⟩ s).1).length ≤ 1000 := by
  have : (tailS ⟨t, h, n, [], [], false, [], false⟩ s).1.length ≤ 1000 := by show (upTo [63] (upTo [35] s)).length ≤ 1000; omega
  split
  ·rw [List.length_drop]; omega
  ·exact this
 generalize (if (tailS ⟨t, h, n, [], [], false, [], false⟩ s).1.take 1 = [47] then (tailS ⟨t, h, n, [], [], false, [], false⟩ s).1.drop 1 else (tailS ⟨t, h, n, [], [], false, [], false⟩ s).1) = p' at hp ⊢
 rw [segOf_eq p' (by omega), Option.bind_some]
 cases hs : segS p' with
 | none => simp [r4_Addressed_fn1]
 | some l =>
  have hll := seg_len hs
  have hml := segL_some _ _ hs
  simp only
  rw [← hml, tidied_eq l (by omega), Option.bind_some]
  cases (tailS ⟨t, h, n, [], [], false, [], false⟩ s).2.1 with
  | true => simp; exact ⟨rfl, rfl, rfl⟩
  | false => simp [r4_Addressed_fn1]
theorem no_eq : (some (r4_Addressed_fn1.1, r4_Addressed_fn1.2) : Option (TJUrl × Int)) = some (noU, 3) := rfl
theorem low3 : ∀ c, c ∈ ([47, 63, 35] : List UInt8) → c.toNat < 128 := by decide
theorem low1 : ∀ c, c ∈ ([58] : List UInt8) → c.toNat < 128 := by decide
theorem addr_j1 (s : List UInt8) (k : Nat) (hk : k + 3 ≤ s.length) (hl : s.length ≤ 500) : r4_Addressed_j1 s ((s.take k).map loB, true) false = some (match placeS ((s.take k).map loB) (upTo [47, 63, 35] (s.drop (k + 3))) with
   | some (h, n) => endS ((s.take k).map loB) h n (from' [47, 63, 35] (s.drop (k + 3)))
   | none => (noU, 3)) := by
 unfold r4_Addressed_j1
 rw [if_neg (by simp)]
 simp only
 have hlen : ((s.take k).map loB).length = k := by rw [List.length_map, List.length_take]; omega
 rw [hlen, wi_id (by omega) (by omega), show (k : Int) + 3 = ((k + 3 : Nat) : Int) by omega, sub_drop hk, Option.bind_some, no_eq]
 generalize (s.take k).map loB = t
 generalize hx : s.drop (k + 3) = x
 have hxl : x.length ≤ 500 := by rw [← hx, List.length_drop]; omega
 have hup := upTo_le [47, 63, 35] x
 have hfr := from_le [47, 63, 35] x
 rw [parted_eq' x [47, 63, 35] (by omega) low3, Option.bind_some]
 generalize upTo [47, 63, 35] x = y at hup ⊢
 generalize from' [47, 63, 35] x = z at hfr ⊢
 have hy1 := upTo_le [58] y
 have hy2 := from_le [58] y
 simp only
 rw [parted_eq' y [58] (by omega) low1, Option.bind_some]
 simp only
 rw [lower_eq (by omega), Option.bind_some, hostRight_eq, Option.bind_some]
 unfold placeS
 cases hh : hostS ((upTo [58] y).map loB) with
 | false => simp
 | true =>
  rw [if_neg (by simp), if_pos rfl]
  by_cases hq : from' [58] y = []
  ·rw [hq, if_neg (by simp), if_pos rfl]
   exact addr_j2 t _ 0 y z (by omega) true
  ·rw [if_neg hq, if_pos (by simpa using hq)]
   have hpos : 1 ≤ (from' [58] y).length := List.length_pos_iff.2 hq
   have hsub : sub? (from' [58] y) 1 ((from' [58] y).length : Int) = some ((from' [58] y).drop 1) := sub_drop (a := 1) hpos
   rw [hsub, Option.bind_some]
   generalize hp : (from' [58] y).drop 1 = p
   have hpl : p.length + 1 = (from' [58] y).length := by rw [← hp, List.length_drop]; omega
   generalize from' [58] y = q at hq hpl hy2 hpos
   generalize (upTo [58] y).map loB = h
   generalize upTo [58] y = y1
   by_cases h5 : p.length ≤ 5
   ·refine lim_eq (p.length + 1) fun N hN => ?_
    refine (port_l2 p q y1 y h (t, true) (y, z) _ (by omega) h5 N 0 0 (by omega) (by omega) (by decide)).trans ?_
    rw [List.drop_zero, no_eq]
    cases hd : p.all dig with
    | false =>
     have e : portS t p = none := by unfold portS; rw [hd, if_neg (by simp)]
     rw [e, if_neg (by simp)]
     rfl
    | true =>
     rw [if_pos rfl]
     by_cases hv : 1 ≤ valF 0 p ∧ valF 0 p ≤ 65535
     ·rw [if_neg (by unfold r4_Between; simp; omega)]
      have hp1 : 1 ≤ p.length := by
       cases p with
       | nil => exact absurd hv.1 (by decide)
       | cons a b => simp
      have e : portS t p = some (if (valF 0 p : Int) = ownS t then 0 else (valF 0 p : Int)) := by
       unfold portS; rw [if_pos ⟨hp1, h5, hd, hv.1, hv.2⟩]
      rw [e, addr_j2 t h _ y z (by omega) true, addr_j2 t h _ y z (by omega) true]
      have own : ((!((decide (t = [104, 116, 116, 112])) && (decide ((valF 0 p : Int) = 80)))) && (!((decide (t = [104, 116, 116, 112, 115])) && (decide ((valF 0 p : Int) = 443))))) = !decide ((valF 0 p : Int) = ownS t) := by
       unfold ownS
       by_cases t1 : t = [104, 116, 116, 112]
       ·rw [if_pos t1, t1]; simp
       ·by_cases t2 : t = [104, 116, 116, 112, 115]
        ·rw [if_neg t1, if_pos t2, t2]; simp
        ·rw [if_neg t1, if_neg t2]
         have : ¬ valF 0 p = 0 := by omega
         simp [t1, t2, this]
      rw [own]
      by_cases ho : (valF 0 p : Int) = ownS t
      ·rw [if_neg (by simp [ho]), if_pos ho]; rfl
      ·rw [if_pos (by simp [ho]), if_neg ho]; rfl
     ·have e : portS t p = none := by unfold portS; rw [if_neg (by omega)]
      rw [e, if_pos (by unfold r4_Between; simp; omega)]
      rfl
   ·have e : portS t p = none := by unfold portS; rw [if_neg (by omega)]
    rw [e]
    refine lim_eq 1 fun N hN => ?_
    obtain ⟨M, rfl⟩ : ∃ M, N = M + 1 := ⟨N - 1, by omega⟩
    rw [r4_Addressed_l2, ints_length, if_pos (by simp only [decide_eq_true_eq]; omega)]
    have a1 : at? (ints p) 0 = some ((p[0]'(by omega)).toNat : Int) := by
     have := at_nat (ints p) 0
     rw [ints_get, List.getElem?_eq_getElem (show 0 < p.length by omega)] at this
     exact this
    rw [a1, Option.bind_some, if_pos (by simp only [Bool.or_eq_true, decide_eq_true_eq]; right; omega)]
    rfl
theorem addressed_eq (s : List UInt8) : r4_Addressed s = some (addrS s) := by
 unfold r4_Addressed addrS
 by_cases h500 : 500 < s.length
 ·rw [if_pos (by simp only [decide_eq_true_eq]; omega), if_pos h500]
 rw [if_neg (by simp only [decide_eq_true_eq]; omega), if_neg h500, schemeOf_eq s (by omega), Option.bind_some]
 have jt : ∀ r, r4_Addressed_j1 s r true = some (noU, 3) := fun r => by unfold r4_Addressed_j1; rw [if_pos rfl]; rfl
 cases hk : sK true s with
 | none => rw [if_pos (by rfl), jt]
 | some k =>
  obtain ⟨h1, h2, h3, h4, h5⟩ := sK_some s true k hk
  simp only
  have hlen : ((s.take k).map loB).length = k := by rw [List.length_map, List.length_take]; omega
  rw [if_neg (by simp), hlen, sub_drop (by omega), Option.bind_some]
  unfold strings_HasPrefix
  rw [hp_eq, Option.bind_some, Option.bind_some]
  have hd : s.drop k = 58 :: s.drop (k + 1) := by
   rw [List.drop_eq_getElem_cons h3]
   congr 1
   rw [List.getElem?_eq_getElem h3] at h4
   exact Option.some.inj h4
  have e : (s.drop k).take ([58, 47, 47] : List UInt8).length = [58, 47, 47] ↔ (s.drop (k + 1)).take 2 = [47, 47] := by
   rw [hd]
   show (58 :: s.drop (k + 1)).take 3 = _ ↔ _
   rw [List.take_succ_cons]
   constructor
   ·intro h; exact (List.cons.inj h).2
   ·intro h; rw [h]
  by_cases h2 : (s.drop (k + 1)).take 2 = [47, 47]
  ·rw [if_pos h2, show decide ((s.drop k).take ([58, 47, 47] : List UInt8).length = [58, 47, 47]) = true by simpa using e.2 h2]
   have hk3 : k + 3 ≤ s.length := by
    have := take_le (s := s.drop (k + 1)) (p := [47, 47]) h2
    rw [List.length_drop, List.length_cons, List.length_cons, List.length_nil] at this
    omega
   rw [Bool.not_true, addr_j1 s k hk3 (by omega), List.drop_drop]
  ·rw [if_neg h2, show decide ((s.drop k).take ([58, 47, 47] : List UInt8).length = [58, 47, 47]) = false by simpa using fun h => h2 (e.1 h), Bool.not_false, jt]
/-- what is known of an address that was read -/
structure AddrOK (u : TJUrl) : Prop where
 sch : u.Scheme.length ≤ 500
 host : u.Host.length ≤ 500
 port : 0 ≤ u.Port ∧ u.Port ≤ 65535
 path : 1 ≤ u.Path.length ∧ u.Path.length ≤ 503
theorem tidy_len (l : List (List UInt8)) : 1 ≤ (tidyS l).length ∧ (tidyS l).length ≤ l.length + 1 := by
 have hf := fold_len l []
 rw [List.length_nil] at hf
 have h2 : (tgo [] l).length ≤ l.length + 1 := by
  rw [tgo_fold]
  cases l.getLast? with
  | none => simp
  | some x =>
   simp only
   split
   ·rw [List.length_append]; simp; omega
   ·omega
 unfold tidyS
 split
 ·simp
 ·rename_i hne
  exact ⟨List.length_pos_iff.2 hne, h2⟩
theorem port_ok {t p : List UInt8} {n : Int} (h : portS t p = some n) : 0 ≤ n ∧ n ≤ 65535 := by
 unfold portS at h
 split at h
 ·cases h
  split <;> omega
 ·cases h
theorem place_ok {t s h : List UInt8} {n : Int} (hp : placeS t s = some (h, n)) : h.length ≤ s.length ∧ 0 ≤ n ∧ n ≤ 65535 := by
 have hu := upTo_le [58] s
 unfold placeS at hp
 split at hp
 ·split at hp
  ·cases hp
   rw [List.length_map]
   omega
  ·obtain ⟨m, h1, h2⟩ := Option.map_eq_some_iff.1 hp
   cases h2
   have := port_ok h1
   rw [List.length_map]
   omega
 ·cases hp
theorem end_ok {t h s : List UInt8} {n : Int} (ht : t.length ≤ 500) (hh : h.length ≤ 500) (hn : 0 ≤ n ∧ n ≤ 65535) (hs : s.length ≤ 500) : ((endS t h n s).2 = 0 ∧ AddrOK (endS t h n s).1) ∨ endS t h n s = (noU, 3) := by
 have h1 := upTo_le [35] s
 have h2 := upTo_le [63] (upTo [35] s)
 unfold endS
 simp only
 have hp : (if (tailS ⟨t, h, n, [], [], false, [], false⟩ s).1.take 1 = [47] then (tailS ⟨t, h, n, [], [], false, [], false⟩ s).1.drop 1 else (tailS ⟨t, h, n, [], [], false, [], false⟩ s).1).length ≤ 500 := by
  have : (tailS ⟨t, h, n, [], [], false, [], false⟩ s).1.length ≤ 500 := by show (upTo [63] (upTo [35] s)).length ≤ 500; omega
  split
  ·rw [List.length_drop]; omega
  ·exact this
 generalize (if (tailS ⟨t, h, n, [], [], false, [], false⟩ s).1.take 1 = [47] then (tailS ⟨t, h, n, [], [], false, [], false⟩ s).1.drop 1 else (tailS ⟨t, h, n, [], [], false, [], false⟩ s).1) = p at hp ⊢
 cases hsg : segS p with
 | none => exact .inr rfl
 | some l =>
  simp only
  have hll := seg_len hsg
  have htl := tidy_len l
  split
  ·refine .inl ⟨rfl, ht, hh, hn, htl.1, ?_⟩
   show (tidyS l).length ≤ 503
   omega
  ·exact .inr rfl
theorem addr_ok (s : List UInt8) : ((addrS s).2 = 0 ∧ AddrOK (addrS s).1) ∨ addrS s = (noU, 3) ∨ addrS s = (noU, 2) := by
 unfold addrS
 split
 ·exact .inr (.inr rfl)
 ·split
  ·exact .inr (.inl rfl)
  ·rename_i k hk
   simp only
   have hr : (s.drop (k + 1)).length ≤ 500 := by rw [List.length_drop]; omega
   have ht : ((s.take k).map loB).length ≤ 500 := by rw [List.length_map, List.length_take]; omega
   generalize s.drop (k + 1) = r at hr ⊢
   generalize (s.take k).map loB = t at ht ⊢
   split
   ·have h1 := upTo_le [47, 63, 35] (r.drop 2)
    have h2 := from_le [47, 63, 35] (r.drop 2)
    rw [List.length_drop] at h1 h2
    cases hp : placeS t (upTo [47, 63, 35] (r.drop 2)) with
    | none => exact .inr (.inl rfl)
    | some hn =>
     obtain ⟨h, n⟩ := hn
     have hpk := place_ok hp
     simp only
     rcases end_ok ht (show h.length ≤ 500 by omega) hpk.2 (show (from' [47, 63, 35] (r.drop 2)).length ≤ 500 by omega) with h | h
     ·exact .inl h
     ·exact .inr (.inl h)
   ·exact .inr (.inl rfl)
/-! ### origins -/
def origS (u : TJUrl) : List UInt8 := u.Scheme ++ [58, 47, 47] ++ u.Host ++ (if u.Port = 0 then [] else 58 :: Lib.itoa u.Port)
theorem orig_eq (u : TJUrl) (h1 : u.Scheme.length ≤ 10000000) (h2 : u.Host.length ≤ 10000000) (h3 : -9223372036854775808 ≤ u.Port ∧ u.Port ≤ 9223372036854775807) : r4_OriginOf u = some (origS u) := by
 have hi := Lib.itoa_length_le u.Port h3.1 h3.2
 unfold r4_OriginOf origS
 rw [catq (by simp; omega), Option.bind_some, catq (by simp; omega), Option.bind_some]
 unfold r4_OriginOf_j1
 by_cases hp : u.Port = 0
 ·rw [if_neg (by simp [hp]), if_pos hp, List.append_nil]
 ·rw [if_pos (by simpa using hp), if_neg hp]
  show (itoa? u.Port).bind _ = _
  unfold itoa?
  rw [if_pos h3, Option.bind_some, catq (by simp; omega), Option.bind_some, catq (by simp; omega), Option.bind_some]
  rfl
theorem url_orig (u : TJUrl) : url_origin u = r4_OriginOf u := rfl
end Go.Proofs.YtjicgjhhiallkaaGreatDoorBv
/- The text of an address. No program is in sight. -/
namespace Go.Proofs.YtjicgjhhiallkaaGreatDoorBv
open Go
set_option linter.unusedSimpArgs false
set_option linter.unusedVariables false
noncomputable def pathT (l : List (List UInt8)) : List UInt8 := l.flatMap fun p => 47 :: encL p
theorem pathT_take {l : List (List UInt8)} {i : Nat} (h : i < l.length) : pathT (l.take (i + 1)) = pathT (l.take i) ++ 47 :: encL l[i] := by
 have tk : l.take (i + 1) = l.take i ++ [l[i]] := by rw [List.take_add_one, List.getElem?_eq_getElem h]; rfl
 unfold pathT
 rw [tk, List.flatMap_append]
 simp
theorem pathT_mono (l : List (List UInt8)) (i : Nat) : (pathT (l.take i)).length ≤ (pathT l).length := by
 conv => rhs; rw [← List.take_append_drop i l]
 unfold pathT
 rw [List.flatMap_append, List.length_append]
 omega
noncomputable def textS (u : TJUrl) : List UInt8 := origS u ++ pathT u.Path ++ (if u.Asks then 63 :: u.Query else []) ++ (if u.Points then 35 :: u.Fragment else [])
/-- an address whose text is not too long -/
structure Short (u : TJUrl) : Prop where
 sum : u.Scheme.length + u.Host.length + (pathT u.Path).length + u.Query.length + u.Fragment.length ≤ 9000000
 path : u.Path.length ≤ 9000000 ∧ ∀ p, p ∈ u.Path → p.length ≤ 9000000
 port : -9223372036854775808 ≤ u.Port ∧ u.Port ≤ 9223372036854775807
theorem orig_len (u : TJUrl) (h : -9223372036854775808 ≤ u.Port ∧ u.Port ≤ 9223372036854775807) : (origS u).length ≤ u.Scheme.length + u.Host.length + 30 := by
 have hi := Lib.itoa_length_le u.Port h.1 h.2
 unfold origS
 split
 ·simp; omega
 ·simp; omega
theorem text_l0 (u : TJUrl) (h : Short u) (K : List UInt8 → Option (List UInt8)) : ∀ (N i : Nat), u.Path.length - i < N → i ≤ u.Path.length →
  url_text_l0 u K N (origS u ++ pathT (u.Path.take i)) (i : Int) = K (origS u ++ pathT u.Path)
 | 0, i, hN, hi => by omega
 | N + 1, i, hN, hi => by
  have ho := orig_len u h.port
  have hp := h.path
  have hs := h.sum
  rw [url_text_l0]
  by_cases hlt : i < u.Path.length
  ·have hx := hp.2 u.Path[i] (List.getElem_mem hlt)
   have hm := pathT_mono u.Path (i + 1)
   have ht := pathT_take hlt
   have hm' := congrArg List.length ht
   rw [List.length_append, List.length_cons] at hm'
   rw [if_pos (by simp only [decide_eq_true_eq]; omega), at_some hlt, Option.bind_some, encode_eq _ (by omega), Option.bind_some, catq (by simp; omega), Option.bind_some]
   show (bWriteString? _ ([47] ++ encL u.Path[i])).bind _ = _
   unfold bWriteString?
   rw [if_pos (by simp; omega), Option.bind_some, wi_id (by omega) (by omega), show (i : Int) + 1 = ((i + 1 : Nat) : Int) by omega]
   have e : origS u ++ pathT (u.Path.take i) ++ ([47] ++ encL u.Path[i]) = origS u ++ pathT (u.Path.take (i + 1)) := by rw [ht, List.append_assoc]; rfl
   rw [e]
   exact text_l0 u h K N (i + 1) (by omega) (by omega)
  ·obtain rfl : i = u.Path.length := by omega
   rw [if_neg (by simp), List.take_length]
theorem text_eq (u : TJUrl) (h : Short u) : url_text u = some (textS u) := by
 have ho := orig_len u h.port
 have hs := h.sum
 unfold url_text
 rw [url_orig, orig_eq u (by omega) (by omega) h.port, Option.bind_some]
 show (bWriteString? [] (origS u)).bind _ = _
 unfold bWriteString?
 rw [if_pos (by simp; omega), Option.bind_some, List.nil_append]
 refine lim_eq (u.Path.length + 1) fun k hk => ?_
 have := text_l0 u h (fun (out1 : (List UInt8)) => 
   if u.Asks then
    (cat? [63] u.Query).bind fun r_7 =>
    (sb_WriteString out1 r_7).bind fun r_8 =>
    url_text_j1 u r_8
   else
    url_text_j1 u out1) k 0 (by omega) (by omega)
 rw [show pathT (u.Path.take 0) = [] from rfl, List.append_nil] at this
 refine this.trans ?_
 have j1 : ∀ o : List UInt8, o.length ≤ 9100000 → url_text_j1 u o = some (o ++ (if u.Points then 35 :: u.Fragment else [])) := by
  intro o hol
  unfold url_text_j1 url_text_j2
  cases u.Points with
  | true =>
   rw [if_pos rfl, if_pos rfl, catq (by simp; omega), Option.bind_some]
   show (bWriteString? o ([35] ++ u.Fragment)).bind _ = _
   unfold bWriteString?
   rw [if_pos (by simp; omega), Option.bind_some]
   rfl
  | false => rw [if_neg (by simp), if_neg (by simp), List.append_nil]
 unfold textS
 cases ha : u.Asks with
 | true =>
  rw [if_pos rfl, if_pos rfl, catq (by simp; omega), Option.bind_some]
  show (bWriteString? (origS u ++ pathT u.Path) ([63] ++ u.Query)).bind _ = _
  unfold bWriteString?
  rw [if_pos (by simp; omega), Option.bind_some, j1 _ (by simp; omega)]
  rfl
 | false =>
  rw [if_neg (by simp), if_neg (by simp), j1 _ (by simp; omega), List.append_nil]
theorem addrT_l0 (u : TJUrl) (h : Short u) (K : List UInt8 → Option (List UInt8)) : ∀ (N i : Nat), u.Path.length - i < N → i ≤ u.Path.length →
  r4_AddressText_l0 u K N (origS u ++ pathT (u.Path.take i)) (i : Int) = K (origS u ++ pathT u.Path)
 | 0, i, hN, hi => by omega
 | N + 1, i, hN, hi => by
  have ho := orig_len u h.port
  have hp := h.path
  have hs := h.sum
  rw [r4_AddressText_l0]
  by_cases hlt : i < u.Path.length
  ·have hx := hp.2 u.Path[i] (List.getElem_mem hlt)
   have hm := pathT_mono u.Path (i + 1)
   have ht := pathT_take hlt
   have hm' := congrArg List.length ht
   rw [List.length_append, List.length_cons] at hm'
   rw [if_pos (by simp only [decide_eq_true_eq]; omega), at_some hlt, Option.bind_some, encoded_eq _ (by omega), Option.bind_some, catq (by simp; omega), Option.bind_some, catq (by simp; omega), Option.bind_some, wi_id (by omega) (by omega), show (i : Int) + 1 = ((i + 1 : Nat) : Int) by omega]
   have e : origS u ++ pathT (u.Path.take i) ++ ([47] ++ encL u.Path[i]) = origS u ++ pathT (u.Path.take (i + 1)) := by rw [ht, List.append_assoc]; rfl
   rw [e]
   exact addrT_l0 u h K N (i + 1) (by omega) (by omega)
  ·obtain rfl : i = u.Path.length := by omega
   rw [if_neg (by simp), List.take_length]
theorem addrT_eq (u : TJUrl) (h : Short u) : r4_AddressText u = some (textS u) := by
 have ho := orig_len u h.port
 have hs := h.sum
 unfold r4_AddressText
 rw [orig_eq u (by omega) (by omega) h.port, Option.bind_some]
 refine lim_eq (u.Path.length + 1) fun k hk => ?_
 have := addrT_l0 u h (fun (out1 : (List UInt8)) => 
   if u.Asks then
    (cat? [63] u.Query).bind fun r_6 =>
    (cat? out1 r_6).bind fun r_7 =>
    r4_AddressText_j1 u r_7
   else
    r4_AddressText_j1 u out1) k 0 (by omega) (by omega)
 rw [show pathT (u.Path.take 0) = [] from rfl, List.append_nil] at this
 refine this.trans ?_
 have j1 : ∀ o : List UInt8, o.length ≤ 9100000 → r4_AddressText_j1 u o = some (o ++ (if u.Points then 35 :: u.Fragment else [])) := by
  intro o hol
  unfold r4_AddressText_j1 r4_AddressText_j2
  cases u.Points with
  | true =>
   rw [if_pos rfl, if_pos rfl, catq (by simp; omega), Option.bind_some, catq (by simp; omega), Option.bind_some]
   rfl
  | false => rw [if_neg (by simp), if_neg (by simp), List.append_nil]
 unfold textS
 cases ha : u.Asks with
 | true =>
  rw [if_pos rfl, if_pos rfl, catq (by simp; omega), Option.bind_some, catq (by simp; omega), Option.bind_some, j1 _ (by simp; omega)]
  rfl
 | false =>
  rw [if_neg (by simp), if_neg (by simp), j1 _ (by simp; omega), List.append_nil]
end Go.Proofs.YtjicgjhhiallkaaGreatDoorBv
/- The law of addresses that are written, over plain values of bounded bulk. No program is in sight. -/
namespace Go.Proofs.YtjicgjhhiallkaaGreatDoorBv
open Go
set_option linter.unusedSimpArgs false
set_option linter.unusedVariables false
def sameB (a b : TJUrl) : Bool := decide (a.Scheme = b.Scheme) && decide (a.Host = b.Host) && decide (a.Port = b.Port) && decide (a.Path = b.Path) && decide (a.Query = b.Query) && (a.Asks == b.Asks) && decide (a.Fragment = b.Fragment) && (a.Points == b.Points)
theorem drop_next {α : Type} [DecidableEq α] {s t : List α} {i : Nat} (h : i < s.length) (h' : i < t.length) : decide (s.drop i = t.drop i) = (decide (s[i] = t[i]) && decide (s.drop (i + 1) = t.drop (i + 1))) := by
 rw [List.drop_eq_getElem_cons h, List.drop_eq_getElem_cons h', Bool.eq_iff_iff]
 simp only [decide_eq_true_eq, Bool.and_eq_true, List.cons.injEq]
theorem equal_l0 (s t : List (List UInt8)) (hl : s.length ≤ 10000000) (he : s.length = t.length) : ∀ (N i : Nat), s.length - i < N → i ≤ s.length →
  slices_Equal_string_l0 s t (fun _ => some true) N (i : Int) = some (decide (s.drop i = t.drop i))
 | 0, i, hN, hi => by omega
 | N + 1, i, hN, hi => by
  rw [slices_Equal_string_l0]
  by_cases h : i < s.length
  ·rw [if_pos (by simp only [decide_eq_true_eq]; omega), at_some h, Option.bind_some, at_some (show i < t.length by omega), Option.bind_some, wi_id (by omega) (by omega), show (i : Int) + 1 = ((i + 1 : Nat) : Int) by omega, equal_l0 s t hl he N (i + 1) (by omega) (by omega), drop_next h (show i < t.length by omega)]
   cases decide (s[i] = t[i]) <;> simp
  ·rw [if_neg (by simp only [decide_eq_true_eq]; omega), List.drop_eq_nil_of_le (by omega), List.drop_eq_nil_of_le (by omega)]
   simp
theorem equal_eq (s t : List (List UInt8)) (hl : s.length ≤ 10000000) : slices_Equal_string s t = some (decide (s = t)) := by
 unfold slices_Equal_string
 by_cases he : s.length = t.length
 ·rw [if_neg (by simp [he])]
  refine lim_eq (s.length + 1) fun k hk => ?_
  have := equal_l0 s t hl he k 0 (by omega) (by omega)
  simpa using this
 ·rw [if_pos (by simp; omega)]
  congr 1
  symm
  rw [decide_eq_false_iff_not]
  rintro rfl
  exact he rfl
theorem same_eq (a b : TJUrl) (hl : a.Path.length ≤ 10000000) : url_same a b = some (sameB a b) := by
 unfold url_same url_same_j1 sameB
 rw [equal_eq _ _ hl]
 cases decide (a.Scheme = b.Scheme) <;> cases decide (a.Host = b.Host) <;> cases decide (a.Port = b.Port) <;> simp
theorem sameU_l0 (a b : TJUrl) (hl : a.Path.length ≤ 10000000) (he : a.Path.length = b.Path.length) (R : Bool) : ∀ (N i : Nat), a.Path.length - i < N → i ≤ a.Path.length →
  r4_SameUrl_l0 a b (fun _ => some R) N (i : Int) = some (decide (a.Path.drop i = b.Path.drop i) && R)
 | 0, i, hN, hi => by omega
 | N + 1, i, hN, hi => by
  rw [r4_SameUrl_l0]
  by_cases h : i < a.Path.length
  ·rw [if_pos (by simp only [decide_eq_true_eq]; omega), at_some h, Option.bind_some, at_some (show i < b.Path.length by omega), Option.bind_some, wi_id (by omega) (by omega), show (i : Int) + 1 = ((i + 1 : Nat) : Int) by omega, sameU_l0 a b hl he R N (i + 1) (by omega) (by omega), drop_next h (show i < b.Path.length by omega)]
   cases decide (a.Path[i] = b.Path[i]) <;> simp
  ·rw [if_neg (by simp only [decide_eq_true_eq]; omega), List.drop_eq_nil_of_le (by omega), List.drop_eq_nil_of_le (by omega)]
   simp
theorem sameU_eq (a b : TJUrl) (hl : a.Path.length ≤ 10000000) : r4_SameUrl a b = some (sameB a b) := by
 unfold r4_SameUrl sameB
 by_cases he : a.Path.length = b.Path.length
 ·rw [if_neg (by simp [he])]
  refine lim_eq (a.Path.length + 1) fun k hk => ?_
  refine (sameU_l0 a b hl he _ k 0 (by omega) (by omega)).trans ?_
  rw [List.drop_zero, List.drop_zero]
  congr 1
  cases decide (a.Scheme = b.Scheme) <;> cases decide (a.Host = b.Host) <;> cases decide (a.Port = b.Port) <;> cases decide (a.Path = b.Path) <;> simp
 ·have hp : decide (a.Path = b.Path) = false := by
   rw [decide_eq_false_iff_not]
   intro h
   exact he (by rw [h])
  rw [if_pos (by simp; omega), hp]
  simp
theorem pathT_len (l : List (List UInt8)) : (pathT l).length ≤ 3 * (l.map fun p => p.length + 1).sum := by
 induction l with
 | nil => simp [pathT]
 | cons p r ih =>
  unfold pathT at ih ⊢
  have := encL_len p
  rw [List.flatMap_cons, List.length_append, List.length_cons, List.map_cons, List.sum_cons]
  omega
theorem mem_sum (l : List (List UInt8)) : l.length ≤ (l.map fun p => p.length + 1).sum ∧ ∀ p, p ∈ l → p.length ≤ (l.map fun p => p.length + 1).sum := by
 induction l with
 | nil => simp
 | cons q r ih =>
  rw [List.map_cons, List.sum_cons, List.length_cons]
  refine ⟨by omega, fun p hp => ?_⟩
  rcases List.mem_cons.1 hp with rfl | hp
  ·omega
  ·have := ih.2 p hp
   omega
theorem pureUrlWrites : PureUrlWrites := by
 intro u hk hb
 have hport := ok_i64 hk.2.2.1
 have hsum : u.Scheme.length + u.Host.length + (u.Path.map fun p => p.length + 1).sum + u.Query.length + u.Fragment.length ≤ 1048576 := by
  have e : (u.Path.map fun p => bulkL (eStr p)) = u.Path.map fun p => p.length + 1 := List.map_congr_left fun p _ => by simp [eStr, bulkL, bulkC]
  simp only [bulkVs, bulkV, e_TJUrl, bulkL, bulkC, bulkE_map, e] at hb
  omega
 have hm := mem_sum u.Path
 have hpl := pathT_len u.Path
 have hS : Short u := ⟨by omega, ⟨by omega, fun p hp => by have := hm.2 p hp; omega⟩, hport⟩
 have ht := text_eq u hS
 have ha := addrT_eq u hS
 unfold l4_UrlWrites url_Write url_Check r4_UrlRight l4_UrlWrites_j1
 rw [ht, ha]
 simp only [Option.bind_some]
 by_cases h500 : 500 < (textS u).length
 ·simp [show (500 : Int) < ((textS u).length : Int) by omega]
 ·have hn : ¬ ((500 : Int) < ((textS u).length : Int)) := by omega
  rw [parse_eq, addressed_eq]
  have hj : ∀ b, url_Check_j1 b = some (if b then 3 else 0) := fun b => by unfold url_Check_j1; cases b <;> rfl
  have hj' : ∀ b, r4_UrlRight_j1 b = some (if b then 3 else 0) := fun b => by unfold r4_UrlRight_j1; cases b <;> rfl
  simp only [Option.bind_some, hn, decide_false, Bool.false_eq_true, if_false, hj, hj', same_eq u _ (show u.Path.length ≤ 10000000 by omega), sameU_eq u _ (show u.Path.length ≤ 10000000 by omega)]
  by_cases h0 : (addrS (textS u)).2 = 0
  ·simp only [h0, decide_true, Bool.not_true, Bool.false_eq_true, if_false, Option.bind_some]
   cases sameB u (addrS (textS u)).1 <;> simp
  ·simp [h0]
end Go.Proofs.YtjicgjhhiallkaaGreatDoorBv
-- squeezed
