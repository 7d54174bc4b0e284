/- Bytes of addresses: what is plain, triples, digits of sixteen. No program is in sight. -/
import Derived.Test.YtagfmlkihindaaaDoorLowerUrlCodes
namespace Go.Proofs.YtagfmlkihindaaaDoorBv
open Go
set_option linter.unusedSimpArgs false
set_option linter.unusedVariables false
def hv (c : UInt8) : Int := Lib.indexByte [48, 49, 50, 51, 52, 53, 54, 55, 56, 57, 65, 66, 67, 68, 69, 70] (if 97 ≤ c.toNat ∧ c.toNat ≤ 102 then UInt8.ofNat (c.toNat - 32) else c)
theorem hv_all (c : UInt8) : -1 ≤ hv c ∧ hv c < 16 ∧ (127 < c.toNat → hv c < 0) := by
  have := u8_all (p := fun c => decide (-1 ≤ hv c ∧ hv c < 16 ∧ (127 < c.toNat → hv c < 0))) (by decide +kernel) c
  exact of_decide_eq_true this
theorem value_eq (c : UInt8) : url_value (c.toNat : Int) = some (hv c) := by
  have := u8_all (p := fun c => decide (url_value (c.toNat : Int) = some (hv c))) (by decide +kernel) c
  simpa using this
def lowV (c : UInt8) : Int := Lib.index [48, 49, 50, 51, 52, 53, 54, 55, 56, 57, 97, 98, 99, 100, 101, 102] [loB c]
theorem lowV_eq (c : UInt8) (h : c.toNat ≤ 127) : lowV c = hv c := by
  have := u8_all (p := fun c => decide (c.toNat ≤ 127 → lowV c = hv c)) (by decide +kernel) c
  simp only [decide_eq_true_eq] at this
  exact this h
theorem byts_one (c : UInt8) : byts [(c.toNat : Int)] = [c] := by
  unfold byts
  simp
theorem byts_app (a b : List Int) : byts (a ++ b) = byts a ++ byts b := by unfold byts; rw [List.map_append]
noncomputable def plainB (c : UInt8) : Bool := (url_plain (c.toNat : Int)).getD false
theorem plain_eq (c : UInt8) : url_plain (c.toNat : Int) = some (plainB c) := by
  have := u8_all (p := fun c => decide (url_plain (c.toNat : Int) = some (plainB c))) (by decide +kernel) c
  simpa using this
noncomputable def tri (c : UInt8) : List UInt8 := (url_triple (c.toNat : Int)).getD []
theorem triple_eq (c : UInt8) : url_triple (c.toNat : Int) = some (tri c) ∧ (tri c).length = 3 := by
  have := u8_all (p := fun c => decide (url_triple (c.toNat : Int) = some (tri c) ∧ (tri c).length = 3)) (by decide +kernel) c
  simpa using this
theorem isPlain_eq (c : UInt8) : clerestoryref4_isPlain (c.toNat : Int) = some (plainB c) := by
  have := u8_all (p := fun c => decide (clerestoryref4_isPlain (c.toNat : Int) = some (plainB c))) (by decide +kernel) c
  simpa using this
noncomputable def enc1 (c : UInt8) : List UInt8 := if plainB c then [c] else tri c
theorem enc1_len (c : UInt8) : (enc1 c).length ≤ 3 := by
  unfold enc1
  split
  · simp
  · rw [(triple_eq c).2]; exact Nat.le_refl _
noncomputable def encL (s : List UInt8) : List UInt8 := s.flatMap enc1
theorem encL_len (s : List UInt8) : (encL s).length ≤ 3 * s.length := by
  induction s with
  | nil => simp [encL]
  | cons c r ih =>
    unfold encL at ih ⊢
    rw [List.flatMap_cons, List.length_append, List.length_cons]
    have := enc1_len c
    omega
theorem encL_take {s : List UInt8} {i : Nat} (h : i < s.length) : encL (s.take (i + 1)) = encL (s.take i) ++ enc1 s[i] := by
  have tk : s.take (i + 1) = s.take i ++ [s[i]] := by rw [List.take_add_one, List.getElem?_eq_getElem h]; rfl
  unfold encL
  rw [tk, List.flatMap_append]
  simp
theorem encode_loop (s : List UInt8) (hl : s.length ≤ 10000000) (K : List UInt8 → Option (List UInt8)) : ∀ (d i : Nat), i + d = s.length → ∀ m, url_Encode_l0 s K (m + d + 1) (encL (s.take i)) (i : Int) = K (encL s)
  | 0, i, hi, m => by
    obtain rfl : i = s.length := by omega
    rw [url_Encode_l0, if_neg (by simp), List.take_length]
  | d + 1, i, hi, m => by
    have h : i < s.length := by omega
    have hlen := encL_len (s.take i)
    rw [List.length_take] at hlen
    have ih := encode_loop s hl K d (i + 1) (by omega) m
    have hc := s[i].toNat_lt
    rw [url_Encode_l0, if_pos (by simp only [decide_eq_true_eq]; omega), at_some h, Option.bind_some, plain_eq, Option.bind_some, show m + (d + 1) = m + d + 1 by omega]
    unfold url_Encode_j3
    rw [wi_id (by omega) (by omega), show (i : Int) + 1 = ((i + 1 : Nat) : Int) by omega]
    cases hp : plainB s[i] with
    | true =>
      rw [if_pos rfl, Option.bind_some]
      show (bWriteByte? (encL (s.take i)) (s[i].toNat : Int)).bind _ = _
      unfold bWriteByte?
      rw [if_pos ⟨by omega, by omega, by omega⟩, Option.bind_some]
      rw [encL_take h, enc1, hp, if_pos rfl] at ih
      simpa using ih
    | false =>
      rw [if_neg (by simp), Option.bind_some, (triple_eq _).1, Option.bind_some]
      show (bWriteString? (encL (s.take i)) (tri s[i])).bind _ = _
      unfold bWriteString?
      rw [if_pos (by rw [(triple_eq _).2]; omega), Option.bind_some]
      rw [encL_take h, enc1, hp, if_neg (by simp)] at ih
      exact ih
theorem encode_eq (s : List UInt8) (hl : s.length ≤ 10000000) : url_Encode s = some (encL s) := by
  unfold url_Encode
  refine lim_add (s.length + 1) fun m => ?_
  exact encode_loop s hl _ s.length 0 (by omega) m
noncomputable def tri4 (x : Int) : Option (List UInt8) :=
  (sub? [48, 49, 50, 51, 52, 53, 54, 55, 56, 57, 65, 66, 67, 68, 69, 70] (wr .u8 (x.tdiv 16)) (wr .u8 ((wr .u8 (x.tdiv 16)) + 1))).bind fun r_2 =>
  (cat? [37] r_2).bind fun r_3 =>
  (sub? [48, 49, 50, 51, 52, 53, 54, 55, 56, 57, 65, 66, 67, 68, 69, 70] (x.tmod 16) (wr .u8 ((x.tmod 16) + 1))).bind fun r_4 =>
  (cat? r_3 r_4)
theorem tri4_eq (c : UInt8) : tri4 (c.toNat : Int) = some (tri c) := by
  have := u8_all (p := fun c => decide (tri4 (c.toNat : Int) = some (tri c))) (by decide +kernel) c
  simpa using this
theorem encoded_loop (s : List UInt8) (hl : s.length ≤ 10000000) (K : List UInt8 → Option (List UInt8)) : ∀ (d i : Nat), i + d = s.length → ∀ m, clerestoryref4_Encoded_l0 s K (m + d + 1) (encL (s.take i)) (ints s) (i : Int) = K (encL s)
  | 0, i, hi, m => by
    obtain rfl : i = s.length := by omega
    rw [clerestoryref4_Encoded_l0, if_neg (by rw [ints_length]; simp), List.take_length]
  | d + 1, i, hi, m => by
    have h : i < s.length := by omega
    have hlen := encL_len (s.take i)
    rw [List.length_take] at hlen
    have ih := encoded_loop s hl K d (i + 1) (by omega) m
    have a1 : at? (ints s) (i : Int) = some (s[i].toNat : Int) := by rw [at_nat, ints_get, List.getElem?_eq_getElem h]; rfl
    rw [clerestoryref4_Encoded_l0, if_pos (by rw [ints_length]; simp only [decide_eq_true_eq]; omega), a1, Option.bind_some, isPlain_eq, Option.bind_some, show m + (d + 1) = m + d + 1 by omega]
    unfold clerestoryref4_Encoded_j3
    rw [wi_id (by omega) (by omega), show (i : Int) + 1 = ((i + 1 : Nat) : Int) by omega]
    cases hp : plainB s[i] with
    | true =>
      rw [if_pos rfl, byts_one, catq (by simp; omega), Option.bind_some]
      rw [encL_take h, enc1, hp, if_pos rfl] at ih
      exact ih
    | false =>
      rw [if_neg (by simp)]
      have e := tri4_eq s[i]
      unfold tri4 at e
      have e' : ∀ F : List UInt8 → Option (List UInt8), ((sub? [48, 49, 50, 51, 52, 53, 54, 55, 56, 57, 65, 66, 67, 68, 69, 70] (wr .u8 ((s[i].toNat : Int).tdiv 16)) (wr .u8 ((wr .u8 ((s[i].toNat : Int).tdiv 16)) + 1))).bind fun r_2 =>
          (cat? [37] r_2).bind fun r_3 =>
          (sub? [48, 49, 50, 51, 52, 53, 54, 55, 56, 57, 65, 66, 67, 68, 69, 70] ((s[i].toNat : Int).tmod 16) (wr .u8 (((s[i].toNat : Int).tmod 16) + 1))).bind fun r_4 =>
          (cat? r_3 r_4).bind F) = F (tri s[i]) := by
        intro F
        have := congrArg (fun o => o.bind F) e
        simp only [Option.bind_assoc, Option.bind_some] at this
        exact this
      rw [e', catq (by rw [(triple_eq _).2]; omega), Option.bind_some]
      rw [encL_take h, enc1, hp, if_neg (by simp)] at ih
      exact ih
theorem encoded_eq (s : List UInt8) (hl : s.length ≤ 10000000) : clerestoryref4_Encoded s = some (encL s) := by
  unfold clerestoryref4_Encoded
  refine lim_add (s.length + 1) fun m => ?_
  exact encoded_loop s hl _ s.length 0 (by omega) m
/-! ### read back -/
def decU : List UInt8 → Option (List Tunit)
  | [] => some []
  | [c] => if c = 37 then none else some [⟨(c.toNat : Int), false⟩]
  | [c, d] => if c = 37 then none else (decU [d]).map (⟨(c.toNat : Int), false⟩ :: ·)
  | c :: a :: b :: r => if c = 37 then (if hv a < 0 ∨ hv b < 0 then none else (decU r).map (⟨16 * hv a + hv b, true⟩ :: ·)) else (decU (a :: b :: r)).map (⟨(c.toNat : Int), false⟩ :: ·)
theorem decU_plain {c : UInt8} {r : List UInt8} (h : c ≠ 37) : decU (c :: r) = (decU r).map (⟨(c.toNat : Int), false⟩ :: ·) := by
  match r with
  | [] => simp [decU, h]
  | [d] => conv => lhs; rw [decU, if_neg h]
  | a :: b :: r => conv => lhs; rw [decU, if_neg h]
theorem or_val : ∀ i j : Fin 16, wr .u8 (bitsV .or .i64 (shl .i64 ((i.val : Nat) : Int) 4) ((j.val : Nat) : Int)) = 16 * ((i.val : Nat) : Int) + ((j.val : Nat) : Int) := by decide +kernel
theorem or_eq {x y : Int} (h1 : 0 ≤ x) (h2 : x < 16) (h3 : 0 ≤ y) (h4 : y < 16) : wr .u8 (bitsV .or .i64 (shl .i64 x 4) y) = 16 * x + y := by
  obtain ⟨i, rfl⟩ : ∃ i : Nat, x = i := ⟨x.toNat, by omega⟩
  obtain ⟨j, rfl⟩ : ∃ j : Nat, y = j := ⟨y.toNat, by omega⟩
  exact or_val ⟨i, by omega⟩ ⟨j, by omega⟩
theorem read_plain {c : UInt8} {r : List UInt8} (h : c ≠ 37) : url_read (c :: r) = some ((c.toNat : Int), 1) := by
  have h' : ¬ (c.toNat : Int) = 37 := fun e => h (UInt8.toNat_inj.1 (by simp; omega))
  unfold url_read
  rw [show at? (c :: r) 0 = some c from rfl, Option.bind_some, if_pos (by simpa using h'), Option.bind_some]
theorem read_short {r : List UInt8} (h : r.length < 2) : url_read (37 :: r) = some (0, 0) := by
  unfold url_read url_read_j1
  rw [show at? (37 :: r) 0 = some 37 from rfl, Option.bind_some, if_neg (by decide), if_pos (by simp only [decide_eq_true_eq, List.length_cons]; omega), if_pos rfl]
theorem read_tri {a b : UInt8} {r : List UInt8} : url_read (37 :: a :: b :: r) = if hv a < 0 ∨ hv b < 0 then some (0, 0) else some (16 * hv a + hv b, 3) := by
  have ha := hv_all a
  have hb := hv_all b
  have a0 : at? (37 :: a :: b :: r) 0 = some 37 := rfl
  have a1 : at? (37 :: a :: b :: r) 1 = some a := rfl
  have a2 : at? (37 :: a :: b :: r) 2 = some b := rfl
  have bad : url_read_j1 (37 :: a :: b :: r) true = some (0, 0) := rfl
  unfold url_read
  rw [a0, Option.bind_some, if_neg (by decide), if_neg (by simp only [decide_eq_true_eq, List.length_cons]; omega), a1, Option.bind_some, value_eq, Option.bind_some, bad]
  by_cases h1 : hv a < 0
  · rw [if_pos (show decide (hv a < 0) = true by simpa using h1), if_pos (show hv a < 0 ∨ hv b < 0 from .inl h1)]
  · rw [if_neg (show ¬ decide (hv a < 0) = true by simpa using h1), a2, Option.bind_some, value_eq, Option.bind_some]
    by_cases h2 : hv b < 0
    · rw [show decide (hv b < 0) = true by simpa using h2, bad, if_pos (show hv a < 0 ∨ hv b < 0 from .inr h2)]
    · rw [show decide (hv b < 0) = false by simpa using h2, if_neg (show ¬ (hv a < 0 ∨ hv b < 0) by omega)]
      unfold url_read_j1
      rw [if_neg (by simp), a1, a2]
      simp only [Option.bind_some, value_eq]
      rw [or_eq (by omega) (by omega) (by omega) (by omega)]
def uF (u : Tunit) : Int := u.f_c
theorem decode_loop (s0 : List UInt8) : ∀ (N : Nat) (s : List UInt8) (out : List Int), s.length < N → s.length + out.length ≤ 10000000 →
    url_Decode_l0 (fun out1 => some (byts out1, 0)) N s out = match decU s with | some l => some (byts (out ++ l.map uF), 0) | none => some ([], 3)
  | 0, s, out, h, _ => by omega
  | N + 1, [], out, h, ho => by
    rw [url_Decode_l0, if_neg (by simp)]
    simp [decU]
  | N + 1, c :: r, out, h, ho => by
    simp only [List.length_cons] at h ho
    rw [url_Decode_l0, if_pos (by simp)]
    by_cases hc : c = 37
    · subst hc
      match r, h, ho with
      | [], h, ho => rw [read_short (by simp), Option.bind_some, if_pos (by decide)]; rfl
      | [d], h, ho => rw [read_short (by simp), Option.bind_some, if_pos (by decide)]; rfl
      | a :: b :: r, h, ho =>
        simp only [List.length_cons] at h ho
        rw [read_tri, decU, if_pos rfl]
        by_cases hb : hv a < 0 ∨ hv b < 0
        · rw [if_pos hb, if_pos hb, Option.bind_some, if_pos (by decide)]
        · rw [if_neg hb, if_neg hb, Option.bind_some, if_neg (by simp), appq (by simp; omega), Option.bind_some]
          show (sub? (37 :: a :: b :: r) ((3 : Nat) : Int) ((37 :: a :: b :: r).length : Int)).bind _ = _
          rw [sub_drop (by simp), Option.bind_some]
          show url_Decode_l0 _ N r _ = _
          rw [decode_loop s0 N r _ (by omega) (by simp; omega)]
          cases decU r with
          | none => rfl
          | some l => simp [uF]
    · rw [read_plain hc, Option.bind_some, if_neg (by simp), appq (by simp; omega), Option.bind_some]
      show (sub? (c :: r) ((1 : Nat) : Int) ((c :: r).length : Int)).bind _ = _
      rw [sub_drop (by simp), Option.bind_some]
      show url_Decode_l0 _ N r _ = _
      rw [decode_loop s0 N r _ (by omega) (by simp; omega), decU_plain hc]
      cases decU r with
      | none => rfl
      | some l => simp [uF]
theorem decode_eq (s : List UInt8) (hl : s.length ≤ 10000000) : url_Decode s = match decU s with | some l => some (byts (l.map uF), 0) | none => some ([], 3) := by
  unfold url_Decode
  refine lim_eq (s.length + 1) fun k hk => ?_
  have := decode_loop s k s [] (by omega) (by simpa using hl)
  simpa using this
theorem fn1_eq (c : UInt8) (h : c.toNat ≤ 127) : clerestoryref4_units_fn1 (c.toNat : Int) = some (hv c) := by
  unfold clerestoryref4_units_fn1
  rw [byts_one, toLower_eq [c] (by simp) (by intro d hd; rw [List.mem_singleton] at hd; subst hd; omega), Option.bind_some]
  show (index? _ [loB c]).bind _ = _
  unfold index?
  rw [if_pos (by simp), Option.bind_some]
  exact congrArg some (lowV_eq c h)
theorem units_loop (s : List UInt8) (hl : s.length ≤ 10000000) : ∀ (N k : Nat) (out : List Tunit), s.length - k < N → k ≤ s.length → out.length ≤ k →
    clerestoryref4_units_l0 s (fun out1 => some (out1, true)) N out (k : Int) = match decU (s.drop k) with | some l => some (out ++ l, true) | none => some ([], false)
  | 0, k, out, h, _, _ => by omega
  | N + 1, k, out, h, hk, ho => by
    rw [clerestoryref4_units_l0]
    by_cases h1 : k < s.length
    · rw [if_pos (by simp only [decide_eq_true_eq]; omega), at_some h1, Option.bind_some, List.drop_eq_getElem_cons h1]
      unfold clerestoryref4_units_j11
      by_cases hc : s[k] = 37
      · rw [if_neg (by simp [hc]), wi_id (by omega) (by omega)]
        have bad : clerestoryref4_units_j12 s (k : Int) (clerestoryref4_units_l0 s (fun out1 => some (out1, true)) N) (fun out1 => some (out1, true)) out true = some ([], false) := by
          unfold clerestoryref4_units_j12; rw [if_pos rfl]
        by_cases h3 : k + 2 < s.length
        · have e2 : s.drop (k + 1) = s[k + 1] :: s[k + 2] :: s.drop (k + 3) := by rw [List.drop_eq_getElem_cons (show k + 1 < s.length by omega), List.drop_eq_getElem_cons h3]
          have n1 : (k : Int) + 1 = ((k + 1 : Nat) : Int) := by omega
          have n2 : (k : Int) + 2 = ((k + 2 : Nat) : Int) := by omega
          have ha := hv_all s[k + 1]
          have hb := hv_all s[k + 2]
          rw [e2, decU, if_pos hc, if_neg (by simp only [decide_eq_true_eq]; omega), wi_id (by omega) (by omega), n1, n2, at_some (show k + 1 < s.length by omega), Option.bind_some]
          by_cases c1 : 127 < s[k + 1].toNat
          · rw [if_pos (by simp only [decide_eq_true_eq]; omega), bad, if_pos (.inl (ha.2.2 c1))]
          rw [if_neg (by simp only [decide_eq_true_eq]; omega), at_some h3, Option.bind_some]
          by_cases c2 : 127 < s[k + 2].toNat
          · rw [if_pos (by simp only [decide_eq_true_eq]; omega), bad, if_pos (.inr (hb.2.2 c2))]
          rw [if_neg (by simp only [decide_eq_true_eq]; omega), Option.bind_some, fn1_eq _ (by omega), Option.bind_some]
          by_cases c3 : hv s[k + 1] < 0
          · rw [if_pos (by simpa using c3), bad, if_pos (.inl c3)]
          rw [if_neg (by simpa using c3), Option.bind_some, fn1_eq _ (by omega), Option.bind_some]
          by_cases c4 : hv s[k + 2] < 0
          · rw [show decide (hv s[k + 2] < 0) = true by simpa using c4, bad, if_pos (.inr c4)]
          rw [show decide (hv s[k + 2] < 0) = false by simpa using c4, if_neg (by omega)]
          unfold clerestoryref4_units_j12 clerestoryref4_units_j11
          rw [if_neg (by simp), wi_id (n := (k : Int) + 1) (by omega) (by omega), wi_id (n := (k : Int) + 2) (by omega) (by omega), n1, n2, at_some (show k + 1 < s.length by omega), at_some h3]
          simp only [Option.bind_some]
          rw [fn1_eq _ (by omega), fn1_eq _ (by omega), Option.bind_some, Option.bind_some, wi_id (n := 16 * hv s[k + 1]) (by omega) (by omega), wi_id (n := 16 * hv s[k + 1] + hv s[k + 2]) (by omega) (by omega), wr_u8, show (16 * hv s[k + 1] + hv s[k + 2]) % 256 = 16 * hv s[k + 1] + hv s[k + 2] by omega, appq (by simp; omega), Option.bind_some,
            wi_id (by omega) (by omega), show ((k + 2 : Nat) : Int) + 1 = ((k + 3 : Nat) : Int) by omega, units_loop s hl N (k + 3) _ (by omega) (by omega) (by simp; omega)]
          cases decU (s.drop (k + 3)) with
          | none => rfl
          | some l => simp
        · rw [if_pos (by simp only [decide_eq_true_eq]; omega), bad]
          have hsh : (s.drop (k + 1)).length < 2 := by rw [List.length_drop]; omega
          rw [hc]
          match s.drop (k + 1), hsh with
          | [], _ => rfl
          | [d], _ => rfl
      · have hc' : ¬ (s[k].toNat : Int) = 37 := fun e => hc (UInt8.toNat_inj.1 (by simp; omega))
        rw [if_pos (by simpa using hc'), Option.bind_some, appq (by simp; omega), Option.bind_some, wi_id (by omega) (by omega), show (k : Int) + 1 = ((k + 1 : Nat) : Int) by omega, units_loop s hl N (k + 1) _ (by omega) (by omega) (by simp; omega), decU_plain hc]
        cases decU (s.drop (k + 1)) with
        | none => rfl
        | some l => simp
    · rw [if_neg (by simp only [decide_eq_true_eq]; omega), List.drop_eq_nil_of_le (by omega)]
      simp [decU]
theorem units_eq (s : List UInt8) (hl : s.length ≤ 10000000) : clerestoryref4_units s = match decU s with | some l => some (l, true) | none => some ([], false) := by
  unfold clerestoryref4_units
  refine lim_eq (s.length + 1) fun k hk => ?_
  have := units_loop s hl k 0 [] (by omega) (by omega) (by simp)
  simpa using this
theorem decU_len : ∀ (N : Nat) (s : List UInt8) (l : List Tunit), s.length ≤ N → decU s = some l → l.length ≤ s.length
  | _, [], l, _, h => by cases h; simp
  | 0, c :: r, l, h, _ => by simp at h
  | N + 1, c :: r, l, hN, h => by
    simp only [List.length_cons] at hN
    by_cases hc : c = 37
    · subst hc
      match r, h, hN with
      | [], h, _ => cases h
      | [d], h, _ => cases h
      | a :: b :: r, h, hN =>
        rw [decU, if_pos rfl] at h
        split at h
        · cases h
        · obtain ⟨l', h1, rfl⟩ := Option.map_eq_some_iff.1 h
          simp only [List.length_cons] at hN
          have := decU_len N r l' (by omega) h1
          simp only [List.length_cons]; omega
    · rw [decU_plain hc] at h
      obtain ⟨l', h1, rfl⟩ := Option.map_eq_some_iff.1 h
      have := decU_len N r l' (by omega) h1
      simp only [List.length_cons]; omega
end Go.Proofs.YtagfmlkihindaaaDoorBv
