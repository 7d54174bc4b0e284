/- The law ColorReads, over plain values. No program is in sight. -/
import Derived.Test.YtmpdhpfimmahfaaDoorCReadColorReads
namespace Go.Proofs.YtmpdhpfimmahfaaDoorBv
open Go
set_option linter.unusedSimpArgs false
set_option linter.unusedVariables false
/-! ### the document's way -/
theorem rlower_l0 (s : List UInt8) (hl : s.length ≤ 140737488355328) : ∀ (N i : Nat), s.length - i < N → i ≤ s.length →
    clerestoryref2_Lower_l0 (fun b => some (byts b)) N (ints ((s.take i).map lowB ++ s.drop i)) (i : Int) = some (s.map lowB)
  | 0, i, hN, hi => by omega
  | N + 1, i, hN, hi => by
    rw [clerestoryref2_Lower_l0]
    have hlen : ((s.take i).map lowB).length = i := by simp; omega
    have hall : (ints ((s.take i).map lowB ++ s.drop i)).length = s.length := by rw [ints_length, List.length_append, hlen, List.length_drop]; omega
    by_cases h : i < s.length
    · have hg : ((s.take i).map lowB ++ s.drop i)[i]? = some s[i] := by
        rw [List.getElem?_append_right (by omega), hlen]
        simp [h]
      have ih := rlower_l0 s hl N (i + 1) (by omega) (by omega)
      have eset : ((s.take i).map lowB ++ s.drop i).set i (lowB s[i]) = (s.take (i + 1)).map lowB ++ s.drop (i + 1) := by
        rw [List.set_append_right _ _ (by omega), hlen, List.drop_eq_getElem_cons h, Nat.sub_self, List.set_cons_zero, List.take_add_one, List.getElem?_eq_getElem h]
        simp only [Option.toList_some, List.map_append, List.map_cons, List.map_nil, List.append_assoc, List.cons_append, List.nil_append]
      have hint : ∀ c : UInt8, (ints ((s.take i).map lowB ++ s.drop i)).set i (c.toNat : Int) = ints (((s.take i).map lowB ++ s.drop i).set i c) := by
        intro c
        unfold ints
        rw [List.map_set]
      have ha : at? (ints ((s.take i).map lowB ++ s.drop i)) (i : Int) = some (s[i].toNat : Int) := by rw [at_nat, ints_get, hg]; rfl
      rw [if_pos (by simp only [decide_eq_true_eq]; omega), ha, Option.bind_some, Option.bind_some]
      unfold clerestoryref2_Lower_j12 clerestoryref2_Lower_j11
      rw [ha, Option.bind_some, Option.bind_some, wi_id (by omega) (by omega), show (i : Int) + 1 = ((i + 1 : Nat) : Int) by omega]
      by_cases hc : 65 ≤ s[i].toNat ∧ s[i].toNat ≤ 90
      · have e : lowB s[i] = s[i] + 32 := by unfold lowB; rw [if_pos hc]
        have e2 : wr .u8 ((s[i].toNat : Int) + 32) = ((lowB s[i]).toNat : Int) := by
          rw [e, wr_u8, UInt8.toNat_add]
          have : (32 : UInt8).toNat = 32 := rfl
          omega
        rw [if_pos (by simp; omega), if_pos (by simp; omega), e2, show ((i : Int)).toNat = i from rfl, hint, eset]
        exact ih
      · have e : lowB s[i] = s[i] := by unfold lowB; rw [if_neg hc]
        have eq : (s.take i).map lowB ++ s.drop i = (s.take (i + 1)).map lowB ++ s.drop (i + 1) := by
          rw [← eset, e]
          exact (set_selfB hg).symm
        rw [eq]
        by_cases c1 : 65 ≤ s[i].toNat
        · rw [if_pos (by simp; omega), if_neg (by simp; omega)]; exact ih
        · rw [if_neg (by simp; omega), if_neg (by simp)]; exact ih
    · have : i = s.length := by omega
      subst this
      rw [if_neg (by rw [hall]; simp)]
      simp [byts_ints]
theorem rlower_eq {s : List UInt8} (hl : s.length ≤ 140737488355328) : clerestoryref2_Lower s = some (s.map lowB) := by
  unfold clerestoryref2_Lower
  refine lim_of (s.length + 1) fun k hk => ?_
  have := rlower_l0 s hl k 0 (by omega) (by omega)
  simpa using this
theorem rhex_eq (c : UInt8) : clerestoryref2_hex (c.toNat : Int) = if isHex c = true then (hexd c : Int) else -1 := by
  have := u8_all (p := fun c => decide (clerestoryref2_hex (c.toNat : Int) = if isHex c = true then (hexd c : Int) else -1)) (by decide +kernel) c
  simpa using this
/-- one digit more, of a short text or a long one -/
def stp (b : Bool) (n : Nat) (c : UInt8) : Nat := if b then 256 * n + 17 * hexd c else 16 * n + hexd c
def bas (b : Bool) : Nat := if b then 256 else 16
theorem stp_lt {b : Bool} {n : Nat} {c : UInt8} {i : Nat} (h : isHex c = true) (hn : n < bas b ^ i) : stp b n c < bas b ^ (i + 1) := by
  have hd := hexd_lt c h
  rw [Nat.pow_succ]
  unfold stp bas at *
  cases b
  · simp only [Bool.false_eq_true, if_false] at *; omega
  · simp only [if_true] at *; omega
theorem rhex_l0 (s : List UInt8) (K : Int → Option (Int × Bool)) (b : Bool) (hb : b = decide ((s.length : Int) < 5)) (hp : ∀ i, i ≤ s.length → bas b ^ i ≤ 4294967296) (hl : s.length ≤ 8) : ∀ (d i n : Nat), i + d = s.length → n < bas b ^ i →
    ∀ m, clerestoryref2_hexColor_l0 s K (m + d + 1) (n : Int) (i : Int) = if (s.drop i).all isHex = true then K ((s.drop i).foldl (stp b) n : Nat) else some (0, false)
  | 0, i, n, hi, hn => fun m => by
    rw [clerestoryref2_hexColor_l0, if_neg (by simp only [decide_eq_true_eq]; omega), List.drop_eq_nil_of_le (by omega)]
    rfl
  | d + 1, i, n, hi, hn => fun m => by
    have h : i < s.length := by omega
    rw [clerestoryref2_hexColor_l0, if_pos (by simp only [decide_eq_true_eq]; omega), at_some h, Option.bind_some, rhex_eq, List.drop_eq_getElem_cons h, List.all_cons]
    by_cases hc : isHex s[i] = true
    · have hd := hexd_lt _ hc
      have hs := stp_lt (b := b) hc hn
      have h1 := hp i (by omega)
      have h2 := hp (i + 1) (by omega)
      have ih := rhex_l0 s K b hb hp hl d (i + 1) (stp b n s[i]) (by omega) hs m
      rw [if_pos hc, if_neg (by simp only [decide_eq_true_eq]; omega), hc, Bool.true_and]
      unfold clerestoryref2_hexColor_j3
      rw [wi_id (n := (i : Int) + 1) (by omega) (by omega), show (i : Int) + 1 = ((i + 1 : Nat) : Int) by omega, show m + (d + 1) = m + d + 1 by omega]
      show _ = if _ then K ((List.foldl (stp b) (stp b n s[i]) _ : Nat) : Int) else _
      rw [← ih, ← hb]
      cases b
      · unfold stp at hs ⊢
        simp only [Bool.false_eq_true, if_false] at hs ⊢
        rw [wi_id (n := 16 * (n : Int)) (by omega) (by omega), wi_id (by omega) (by omega)]
        congr 1 <;> omega
      · unfold stp at hs ⊢
        simp only [if_true] at hs ⊢
        rw [letIn_eq, wi_id (n := 16 * (n : Int)) (by omega) (by omega), wi_id (n := 16 * (n : Int) + _) (by omega) (by omega), wi_id (n := 16 * _) (by omega) (by omega), wi_id (by omega) (by omega)]
        congr 1 <;> omega
    · have hf : isHex s[i] = false := by simpa using hc
      rw [if_neg hc, if_pos (by decide), hf, Bool.false_and, if_neg (by simp)]
theorem stp_G : ∀ (l : List UInt8) (n : Nat), l.foldl (stp true) n = hexG n l := fun l n => rfl
theorem stp_F : ∀ (l : List UInt8) (n : Nat), l.foldl (stp false) n = hexF n l := fun l n => rfl
theorem rhexColor_eq (s : List UInt8) : ∃ x, clerestoryref2_hexColor s = some (match hexS s with | some v => ((v : Int), true) | none => (x, false)) := by
  unfold clerestoryref2_hexColor hexS
  by_cases hlen : s.length = 3 ∨ s.length = 4 ∨ s.length = 6 ∨ s.length = 8
  · rw [if_neg (by simp; omega)]
    have hp : ∀ i, i ≤ s.length → bas (decide ((s.length : Int) < 5)) ^ i ≤ 4294967296 := by
      intro i hi
      unfold bas
      by_cases h5 : s.length < 5
      · rw [if_pos (by simp only [decide_eq_true_eq]; omega)]
        exact Nat.le_trans (Nat.pow_le_pow_right (by omega) (show i ≤ 4 by omega)) (by decide)
      · rw [if_neg (by simp only [decide_eq_true_eq]; omega)]
        exact Nat.le_trans (Nat.pow_le_pow_right (by omega) (show i ≤ 8 by omega)) (by decide)
    have hb : s.all isHex = true → s.foldl (stp (decide ((s.length : Int) < 5))) 0 < 4294967296 := by
      have : ∀ (l : List UInt8) (b : Bool) (n i : Nat), l.all isHex = true → n < bas b ^ i → l.foldl (stp b) n < bas b ^ (i + l.length) := by
        intro l
        induction l with
        | nil => intro b n i _ hn; exact hn
        | cons c r ih =>
          intro b n i ha hn
          rw [List.all_cons, Bool.and_eq_true] at ha
          have := ih b (stp b n c) (i + 1) ha.2 (stp_lt ha.1 hn)
          rw [List.length_cons, show i + (r.length + 1) = i + 1 + r.length by omega]
          exact this
      intro ha
      have := this s (decide ((s.length : Int) < 5)) 0 0 ha (by simp)
      rw [Nat.zero_add] at this
      exact Nat.lt_of_lt_of_le this (hp _ (Nat.le_refl _))
    rw [lim_add (s.length + 1) fun m => by rw [← Nat.add_assoc]; exact rhex_l0 s _ _ rfl hp (by omega) s.length 0 0 (by omega) (by simp) m, List.drop_zero]
    by_cases hx : s.all isHex = true
    · have hb' := hb hx
      refine ⟨0, ?_⟩
      rw [if_pos hx, if_pos hx]
      unfold clerestoryref2_hexColor_j4
      rcases hlen with h | h | h | h
      · rw [if_pos (by simp [h]), if_pos h]
        have e : decide ((s.length : Int) < 5) = true := by simp; omega
        rw [e, stp_G] at hb' ⊢
        rw [wi_id (n := 256 * _) (by omega) (by omega), wi_id (by omega) (by omega)]
        rfl
      · rw [if_neg (by simp [h]), if_neg (by omega), if_pos h]
        have e : decide ((s.length : Int) < 5) = true := by simp; omega
        rw [e, stp_G]
      · rw [if_pos (by simp [h]), if_neg (by omega), if_neg (by omega), if_pos h]
        have e : decide ((s.length : Int) < 5) = false := by simp; omega
        rw [e, stp_F] at hb' ⊢
        rw [wi_id (n := 256 * _) (by omega) (by omega), wi_id (by omega) (by omega)]
        rfl
      · rw [if_neg (by simp [h]), if_neg (by omega), if_neg (by omega), if_neg (by omega), if_pos h]
        have e : decide ((s.length : Int) < 5) = false := by simp; omega
        rw [e, stp_F]
    · exact ⟨0, by rw [if_neg hx, if_neg hx]⟩
  · refine ⟨0, ?_⟩
    rw [if_pos (by simp; omega)]
    by_cases hx : s.all isHex = true
    · rw [if_pos hx, if_neg (by omega), if_neg (by omega), if_neg (by omega), if_neg (by omega)]
    · rw [if_neg hx]
/-! ### the document's parts -/
theorem rdigit_eq (c : UInt8) : clerestoryref2_digit (c.toNat : Int) = isDig c := by
  unfold clerestoryref2_digit isDig
  rw [Bool.eq_iff_iff]
  simp
  omega
theorem rpart_l0 (s : List UInt8) (K : Int → Option Int) (hl : s.length ≤ 3) : ∀ (d i n : Nat), i + d = s.length → n < 10 ^ i → ∀ m, clerestoryref2_part_l0 s K (m + d + 1) (n : Int) (i : Int) = if (s.drop i).all isDig = true then K (dval n (s.drop i) : Nat) else some (-1)
  | 0, i, n, hi, hn => fun m => by
    rw [clerestoryref2_part_l0, if_neg (by simp only [decide_eq_true_eq]; omega), List.drop_eq_nil_of_le (by omega)]
    rfl
  | d + 1, i, n, hi, hn => fun m => by
    have h : i < s.length := by omega
    have h3 : 10 ^ i ≤ 10 ^ 3 := Nat.pow_le_pow_right (by omega) (by omega)
    rw [clerestoryref2_part_l0, if_pos (by simp only [decide_eq_true_eq]; omega), at_some h, Option.bind_some, Option.bind_some, rdigit_eq, List.drop_eq_getElem_cons h, List.all_cons]
    by_cases hc : isDig s[i] = true
    · have hc' := hc
      unfold isDig at hc'
      rw [decide_eq_true_eq] at hc'
      have ih := rpart_l0 s K hl d (i + 1) (10 * n + (s[i].toNat - 48)) (by omega) (by rw [Nat.pow_succ]; omega) m
      rw [hc, if_neg (by simp), Bool.true_and, wi_id (n := (i : Int) + 1) (by omega) (by omega), show (i : Int) + 1 = ((i + 1 : Nat) : Int) by omega, show m + (d + 1) = m + d + 1 by omega]
      show _ = if _ then K (dval (10 * n + (s[i].toNat - 48)) _ : Nat) else _
      rw [← ih]
      congr 1
      rw [wr_u8, wr_i64, wi_id (n := 10 * (n : Int)) (by omega) (by omega), wi_id (n := ((s[i].toNat : Int) - 48) % 256) (by omega) (by omega), wi_id (by omega) (by omega)]
      omega
    · have hf : isDig s[i] = false := by simpa using hc
      rw [hf, if_pos (by simp), Bool.false_and, if_neg (by simp)]
theorem rpart_eq (w : List UInt8) : clerestoryref2_part w = some (match pv w with | some v => (v : Int) | none => -1) := by
  unfold clerestoryref2_part pv
  by_cases hl : 1 ≤ w.length ∧ w.length ≤ 3
  · rw [if_neg (by simp; omega)]
    have h0 : 0 < w.length := by omega
    have e0 : at? w 0 = some w[0] := at_some (k := 0) h0
    rw [e0, Option.bind_some]
    have hh : w.head? = some w[0] := by rw [List.head?_eq_getElem?, List.getElem?_eq_getElem h0]
    unfold clerestoryref2_part_j1
    by_cases hz : w.head? = some 48 ∧ 1 < w.length
    · rw [if_pos (by rw [hh] at hz; simp [Option.some.inj hz.1]; omega), if_neg fun x => x.2.1 hz]
    · rw [if_neg (by
        rw [hh] at hz
        simp
        intro h1
        have : w[0] = 48 := by rw [← UInt8.toNat_inj]; exact_mod_cast h1
        rw [this] at hz
        simp at hz
        omega)]
      rw [lim_add (w.length + 1) fun m => by rw [← Nat.add_assoc]; exact rpart_l0 w _ hl.2 w.length 0 0 (by omega) (by simp) m, List.drop_zero]
      by_cases hx : w.all isDig = true
      · rw [if_pos hx]
        by_cases h255 : dval 0 w ≤ 255
        · rw [if_neg (by simp only [decide_eq_true_eq]; omega), if_pos ⟨hl, hz, hx, h255⟩]
        · rw [if_pos (by simp only [decide_eq_true_eq]; omega), if_neg fun x => h255 x.2.2.2]
      · rw [if_neg hx, if_neg fun x => hx x.2.2.1]
  · rw [if_pos (by simp; omega), if_neg fun x => hl x.1]
    rfl
/-- the document walks on to the next comma -/
theorem rscan (s : List UInt8) (hl : s.length ≤ 1000) (K : Int → Int → Option (Int × Bool)) (n many from_ : Int) : ∀ (d i : Nat), i + d ≤ s.length → (∀ j, i ≤ j → j < i + d → s[j]? ≠ some 44) →
    ∀ m, clerestoryref2_rgbColor_l0 s K (m + d) n many from_ (i : Int) = clerestoryref2_rgbColor_l0 s K m n many from_ ((i + d : Nat) : Int)
  | 0, i, hi, hc => fun m => rfl
  | d + 1, i, hi, hc => fun m => by
    have h : i < s.length := by omega
    have hne : s[i] ≠ 44 := fun e => hc i (Nat.le_refl _) (by omega) (by rw [List.getElem?_eq_getElem h, e])
    have hne' : ((s[i].toNat : Int)) ≠ 44 := fun e => hne (by rw [← UInt8.toNat_inj]; exact_mod_cast e)
    have ih := rscan s hl K n many from_ d (i + 1) (by omega) (fun j h1 h2 => hc j (by omega) (by omega)) m
    rw [show m + (d + 1) = (m + d) + 1 by omega, clerestoryref2_rgbColor_l0, if_pos (by simp only [decide_eq_true_eq]; omega), if_pos (by simp only [decide_eq_true_eq]; omega), at_some h, Option.bind_some]
    unfold clerestoryref2_rgbColor_j39 clerestoryref2_rgbColor_j38
    rw [if_pos (by simp [hne']), wi_id (by omega) (by omega), show (i : Int) + 1 = ((i + 1 : Nat) : Int) by omega, ih]
    congr 1
    omega
/-- a piece is taken at its end -/
theorem rtake (s : List UInt8) (hl : s.length ≤ 1000) (K : Int → Int → Option (Int × Bool)) (n many f e : Nat) (hf : f ≤ e) (he : e ≤ s.length) (hend : e = s.length ∨ s[e]? = some 44) (hm : many ≤ 4) (hn : n < 256 ^ many) :
    ∀ m, clerestoryref2_rgbColor_l0 s K (m + 1) (n : Int) (many : Int) (f : Int) (e : Int) = match pv (tr many ((s.take e).drop f)) with
      | some v => if many = 4 then some (0, false) else clerestoryref2_rgbColor_l0 s K m ((256 * n + v : Nat) : Int) ((many + 1 : Nat) : Int) ((e + 1 : Nat) : Int) ((e + 1 : Nat) : Int)
      | none => some (0, false) := by
  intro m
  have h4 : 256 ^ many ≤ 256 ^ 4 := Nat.pow_le_pow_right (by omega) hm
  have j41 : ∀ w, clerestoryref2_rgbColor_j41 (many : Int) (e : Int) s (n : Int) (clerestoryref2_rgbColor_l0 s K m) K w = match pv w with
      | some v => if many = 4 then some (0, false) else clerestoryref2_rgbColor_l0 s K m ((256 * n + v : Nat) : Int) ((many + 1 : Nat) : Int) ((e + 1 : Nat) : Int) ((e + 1 : Nat) : Int)
      | none => some (0, false) := by
    intro w
    unfold clerestoryref2_rgbColor_j41 clerestoryref2_rgbColor_j38
    rw [rpart_eq, Option.bind_some]
    cases hp : pv w with
    | none => simp only []; rw [if_pos (by simp)]
    | some v =>
      have hv := (pv_dec hp).1
      simp only []
      by_cases hm4 : many = 4
      · rw [if_pos (by rw [hm4]; simp), if_pos hm4]
      · rw [if_neg (by simp only [Bool.or_eq_true, decide_eq_true_eq]; omega), if_neg hm4, wi_id (n := 256 * (n : Int)) (by omega) (by omega), wi_id (n := 256 * (n : Int) + (v : Int)) (by omega) (by omega), wi_id (n := (many : Int) + 1) (by omega) (by omega), wi_id (n := (e : Int) + 1) (by omega) (by omega)]
        rfl
  have j39 : clerestoryref2_rgbColor_j39 (e : Int) s (n : Int) (many : Int) (f : Int) (clerestoryref2_rgbColor_l0 s K m) K false = match pv (tr many ((s.take e).drop f)) with
      | some v => if many = 4 then some (0, false) else clerestoryref2_rgbColor_l0 s K m ((256 * n + v : Nat) : Int) ((many + 1 : Nat) : Int) ((e + 1 : Nat) : Int) ((e + 1 : Nat) : Int)
      | none => some (0, false) := by
    unfold clerestoryref2_rgbColor_j39
    rw [if_neg (by simp), sub_nat hf he, Option.bind_some]
    generalize hw : (s.take e).drop f = w
    have hwl : w.length ≤ 1000 := by rw [← hw]; simp; omega
    unfold clerestoryref2_rgbColor_j42 tr
    by_cases hc : 0 < many ∧ 0 < w.length
    · rw [if_pos (by simp only [Bool.and_eq_true, decide_eq_true_eq]; omega)]
      have hh : w.head? = some w[0] := by rw [List.head?_eq_getElem?, List.getElem?_eq_getElem hc.2]
      have e0 : at? w 0 = some w[0] := at_some (k := 0) hc.2
      rw [e0, Option.bind_some, hh]
      by_cases h32 : w[0] = 32
      · rw [if_pos (by rw [h32]; rfl), if_pos ⟨hc.1, by rw [h32]⟩]
        have : sub? w 1 (w.length : Int) = some (w.drop 1) := sub_drop (a := 1) hc.2
        rw [this, Option.bind_some, j41]
      · rw [if_neg (by simp; intro x; exact h32 (by rw [← UInt8.toNat_inj]; exact_mod_cast x)), if_neg fun x => h32 (Option.some.inj x.2), j41]
    · rw [if_neg (by simp only [Bool.and_eq_true, decide_eq_true_eq]; omega), if_neg (by simp), j41, if_neg]
      rintro ⟨h1, h2⟩
      refine hc ⟨h1, ?_⟩
      cases w with
      | nil => simp at h2
      | cons x r => simp
  rw [clerestoryref2_rgbColor_l0, if_pos (by simp only [decide_eq_true_eq]; omega)]
  rcases hend with rfl | h44
  · rw [if_neg (by simp)]
    exact j39
  · have h : e < s.length := (List.getElem?_eq_some_iff.1 h44).1
    rw [if_pos (by simp only [decide_eq_true_eq]; omega), at_some h, Option.bind_some]
    rw [List.getElem?_eq_getElem h] at h44
    rw [Option.some.inj h44]
    exact j39
theorem rgb_l0 (s : List UInt8) (hl : s.length ≤ 1000) (K : Int → Int → Option (Int × Bool)) : ∀ (N f n many : Nat), s.length - f < N → f ≤ s.length → many ≤ 4 → n < 256 ^ many → ∀ m,
    clerestoryref2_rgbColor_l0 s K (m + (s.length - f) + 2) (n : Int) (many : Int) (f : Int) (f : Int) = match seqV many n (cutB 44 (s.drop f)) with
      | some n' => if many + (cutB 44 (s.drop f)).length ≤ 4 then K (n' : Int) ((many + (cutB 44 (s.drop f)).length : Nat) : Int) else some (0, false)
      | none => some (0, false)
  | 0, f, n, many, hN, hf, hm, hn => by omega
  | N + 1, f, n, many, hN, hf, hm, hn => fun m => by
    rcases index_one 44 (s.drop f) with ⟨_, h2⟩ | ⟨a, b, h1, h2, _⟩
    · rw [cutB_none h2]
      have hsc := rscan s hl K (n : Int) (many : Int) (f : Int) (s.length - f) f (by omega) (fun j h3 h4 e => h2 44 (List.mem_iff_getElem?.2 ⟨j - f, by rw [List.getElem?_drop, show f + (j - f) = j by omega]; exact e⟩) rfl) (m + 2)
      rw [show m + (s.length - f) + 2 = m + 2 + (s.length - f) by omega, hsc, show f + (s.length - f) = s.length by omega, rtake s hl K n many f s.length hf (Nat.le_refl _) (.inl rfl) hm hn (m + 1), List.take_length]
      simp only [seqV, List.length_singleton]
      cases hp : pv (tr many (s.drop f)) with
      | none => rfl
      | some v =>
        simp only [Option.bind_some]
        by_cases hm4 : many = 4
        · rw [if_pos hm4, if_neg (by omega)]
        · rw [if_neg hm4, if_pos (by omega), clerestoryref2_rgbColor_l0, if_neg (by simp only [decide_eq_true_eq]; omega)]
    · rw [h1, cutB_hit b h2]
      have hlen : (s.drop f).length = a.length + b.length + 1 := by rw [h1]; simp; omega
      rw [List.length_drop] at hlen
      have hget : ∀ j, j < a.length → s[f + j]? = a[j]? := fun j hj => by rw [← List.getElem?_drop, h1, List.getElem?_append_left hj]
      have h44 : s[f + a.length]? = some 44 := by rw [← List.getElem?_drop, h1, List.getElem?_append_right (Nat.le_refl _), Nat.sub_self]; rfl
      have hsc := rscan s hl K (n : Int) (many : Int) (f : Int) a.length f (by omega) (fun j h3 h4 e => by
        have := hget (j - f) (by omega)
        rw [show f + (j - f) = j by omega, e] at this
        exact h2 44 (List.mem_iff_getElem?.2 ⟨_, this.symm⟩) rfl) (m + b.length + 3)
      have etake : (s.take (f + a.length)).drop f = a := by
        rw [List.drop_take, show f + a.length - f = a.length by omega, h1, List.take_left' rfl]
      have edrop : s.drop (f + a.length + 1) = b := by
        rw [show f + a.length + 1 = f + (a.length + 1) by omega, ← List.drop_drop, h1]
        simp
      rw [show m + (s.length - f) + 2 = m + b.length + 3 + a.length by omega, hsc, rtake s hl K n many f (f + a.length) (by omega) (by omega) (.inr h44) hm hn (m + b.length + 2), etake]
      simp only [seqV, List.length_cons]
      cases hp : pv (tr many a) with
      | none => rfl
      | some v =>
        simp only [Option.bind_some]
        have hv := (pv_dec hp).1
        have hcl := List.length_pos_iff.2 (cutB_ne 44 b)
        by_cases hm4 : many = 4
        · rw [if_pos hm4]
          split
          · rw [if_neg (by omega)]
          · rfl
        · rw [if_neg hm4]
          have ih := rgb_l0 s hl K N (f + a.length + 1) (256 * n + v) (many + 1) (by omega) (by omega) (by omega) (by rw [Nat.pow_succ]; omega) m
          rw [edrop, show s.length - (f + a.length + 1) = b.length by omega] at ih
          rw [show m + b.length + 2 = m + b.length + 2 from rfl, ih]
          simp only [show many + 1 + (cutB 44 b).length = many + ((cutB 44 b).length + 1) by omega]
theorem rgbColor_eq (s : List UInt8) (hl : s.length ≤ 1000) : ∃ x, clerestoryref2_rgbColor s = some (match rgbS s with | some v => ((v : Int), true) | none => (x, false)) := by
  unfold clerestoryref2_rgbColor rgbS
  have hcl := List.length_pos_iff.2 (cutB_ne 44 s)
  rw [lim_add (s.length + 2) fun m => by
    have := rgb_l0 s hl (fun (n_1 : Int) (many1 : Int) => 
      if decide (many1 = 3) then
        clerestoryref2_rgbColor_j43 many1 (wi ((wi (256 * n_1)) + 255))
      else
        clerestoryref2_rgbColor_j43 many1 n_1) (s.length + 1) 0 0 0 (by omega) (by omega) (by omega) (by simp) m
    rw [← Nat.add_assoc]
    exact this, List.drop_zero]
  unfold clerestoryref2_rgbColor_j43
  cases hs : seqV 0 0 (cutB 44 s) with
  | none => exact ⟨0, rfl⟩
  | some n =>
    simp only [Option.bind_some, Nat.zero_add]
    by_cases h4 : (cutB 44 s).length ≤ 4
    · rw [if_pos h4]
      by_cases h3 : (cutB 44 s).length = 3
      · have hb : n < 256 ^ 3 := by
          have gen : ∀ (ws : List (List UInt8)) (i n n' : Nat), n < 256 ^ i → seqV i n ws = some n' → n' < 256 ^ (i + ws.length) := by
            intro ws
            induction ws with
            | nil => intro i n n' hn h; cases h; exact hn
            | cons w ws ih =>
              intro i n n' hn h
              simp only [seqV] at h
              obtain ⟨v, hv, h2⟩ := Option.bind_eq_some_iff.1 h
              have := ih (i + 1) _ n' (by have := (pv_dec hv).1; rw [Nat.pow_succ]; omega) h2
              rw [List.length_cons, show i + (ws.length + 1) = i + 1 + ws.length by omega]
              exact this
          have := gen _ 0 0 n (by simp) hs
          rwa [h3] at this
        refine ⟨0, ?_⟩
        rw [if_pos (by simp [h3]), if_pos h3, h3, wi_id (n := 256 * (n : Int)) (by omega) (by omega), wi_id (by omega) (by omega)]
        rfl
      · rw [if_neg (by simp; omega), if_neg h3]
        by_cases h44 : (cutB 44 s).length = 4
        · exact ⟨0, by rw [if_pos h44, h44]; rfl⟩
        · refine ⟨(n : Int), ?_⟩
          rw [if_neg h44]
          have : decide (3 ≤ (((cutB 44 s).length : Nat) : Int)) = false := by simp; omega
          rw [this]
    · exact ⟨0, by rw [if_neg h4, if_neg (by omega), if_neg (by omega)]⟩
/-! ### the names -/
theorem rnames (u : List UInt8) (K : Unit → Option (Int × Bool)) : ∀ (d i : Nat), i + d = clerestoryref2_ColorNames_t0.length → ∀ m, clerestoryref2_ColorOf_l0 u K (m + d + 1) clerestoryref2_ColorNames_t0 clerestoryref2_ColorNames_t1 (i : Int) =
    match findN u ((clerestoryref2_ColorNames_t0.zip clerestoryref2_ColorNames_t1).drop i) with
      | some c => some (256 * c + 255, true)
      | none => K ()
  | 0, i, hi => fun m => by
    rw [clerestoryref2_ColorOf_l0, if_neg (by simp only [decide_eq_true_eq]; omega), List.drop_eq_nil_of_le (by simp [clerestoryref2_ColorNames_t0, clerestoryref2_ColorNames_t1] at hi ⊢; omega)]
    rfl
  | d + 1, i, hi => fun m => by
    have h : i < clerestoryref2_ColorNames_t0.length := by omega
    have h1 : i < clerestoryref2_ColorNames_t1.length := h
    have hz : i < (clerestoryref2_ColorNames_t0.zip clerestoryref2_ColorNames_t1).length := by rw [List.length_zip]; omega
    have hlen : clerestoryref2_ColorNames_t0.length = 17 := rfl
    have ih := rnames u K d (i + 1) (by omega) m
    have z1 : (clerestoryref2_ColorNames_t0.zip clerestoryref2_ColorNames_t1)[i].1 = clerestoryref2_ColorNames_t0[i] := by rw [List.getElem_zip]; rfl
    have z2 : (clerestoryref2_ColorNames_t0.zip clerestoryref2_ColorNames_t1)[i].2 = clerestoryref2_ColorNames_t1[i] := by rw [List.getElem_zip]; rfl
    rw [clerestoryref2_ColorOf_l0, if_pos (by simp only [decide_eq_true_eq]; omega), at_some h, Option.bind_some, List.drop_eq_getElem_cons hz, findN]
    by_cases he : u = (clerestoryref2_ColorNames_t0.zip clerestoryref2_ColorNames_t1)[i].1
    · have hr : 0 ≤ clerestoryref2_ColorNames_t1[i] ∧ clerestoryref2_ColorNames_t1[i] ≤ 16777215 := by
        have : ∀ x ∈ clerestoryref2_ColorNames_t1, 0 ≤ x ∧ x ≤ 16777215 := by decide
        exact this _ (List.getElem_mem h1)
      rw [if_pos he, z2, if_pos (by rw [decide_eq_true_eq]; exact (he.trans z1).symm), at_some h1, Option.bind_some, wi_id (n := 256 * _) (by omega) (by omega), wi_id (by omega) (by omega)]
      rfl
    · rw [if_neg he, if_neg (by rw [decide_eq_true_eq]; exact fun x => he (x.symm.trans z1.symm)), wi_id (by omega) (by omega), show (i : Int) + 1 = ((i + 1 : Nat) : Int) by omega, show m + (d + 1) = m + d + 1 by omega]
      exact ih
theorem colorOf_eq (s : List UInt8) (hl : s.length ≤ 140737488355327) : ∃ x, clerestoryref2_ColorOf s = some (match readS s with | some v => (v, true) | none => (x, false)) := by
  unfold clerestoryref2_ColorOf readS
  rw [rlower_eq (by omega), Option.bind_some]
  generalize hu : s.map lowB = u
  have hul : u.length ≤ 140737488355327 := by rw [← hu, List.length_map]; exact hl
  by_cases ht : u = [116, 114, 97, 110, 115, 112, 97, 114, 101, 110, 116]
  · exact ⟨0, by rw [if_pos (by simpa using ht), if_pos ht]⟩
  · rw [if_neg (by simpa using ht), if_neg ht]
    unfold clerestoryref2_ColorNames
    rw [Option.bind_some, lim_add (17 + 1) fun m => by rw [← Nat.add_assoc]; exact rnames u _ 17 0 rfl m, List.drop_zero]
    rw [show clerestoryref2_ColorNames_t0.zip clerestoryref2_ColorNames_t1 = nameTab from rfl]
    cases findN u nameTab with
    | some c => exact ⟨0, rfl⟩
    | none =>
      simp only []
      have hh : (if decide (0 < (u.length : Int)) then (at? u 0).bind fun c_1 => clerestoryref2_ColorOf_j1 u (decide ((c_1.toNat : Int) = 35)) else clerestoryref2_ColorOf_j1 u false) = clerestoryref2_ColorOf_j1 u (decide (u.head? = some 35)) := by
        cases u with
        | nil => rfl
        | cons x r =>
          have e0 : at? (x :: r) 0 = some x := rfl
          rw [if_pos (by simp), e0, Option.bind_some]
          congr 1
          rw [Bool.eq_iff_iff, decide_eq_true_eq, decide_eq_true_eq]
          simp only [List.head?_cons, Option.some.injEq]
          rw [← UInt8.toNat_inj]
          exact_mod_cast Iff.rfl
      rw [hh]
      unfold clerestoryref2_ColorOf_j1
      by_cases h35 : u.head? = some 35
      · rw [if_pos (by simpa using h35), if_pos h35]
        have hpos : 1 ≤ u.length := by cases u with | nil => simp at h35 | cons x r => simp
        have : sub? u 1 (u.length : Int) = some (u.drop 1) := sub_drop (a := 1) hpos
        rw [this, Option.bind_some]
        obtain ⟨x, h⟩ := rhexColor_eq (u.drop 1)
        rw [h]
        exact ⟨x, by cases hexS (u.drop 1) <;> rfl⟩
      · rw [if_neg (by simpa using h35), if_neg h35]
        unfold clerestoryref2_ColorOf_j2
        generalize hR : (if u.take 4 = [114, 103, 98, 40] ∧ u.getLast? = some 41 ∧ 5 < u.length then Option.map (fun n : Nat => (n : Int)) (rgbS ((u.drop 4).dropLast)) else none) = R
        have hR1 : u.take 4 = [114, 103, 98, 40] ∧ u.getLast? = some 41 ∧ 5 < u.length → R = Option.map (fun n : Nat => (n : Int)) (rgbS ((u.drop 4).dropLast)) := fun h => by rw [← hR, if_pos h]
        have hR2 : ¬ (u.take 4 = [114, 103, 98, 40] ∧ u.getLast? = some 41 ∧ 5 < u.length) → R = none := fun h => by rw [← hR, if_neg h]
        clear hR
        by_cases hlen : 5 < u.length ∧ u.length < 60
        · rw [if_pos (by simp; omega)]
          have : sub? u 0 4 = some (u.take 4) := sub_take (b := 4) (by omega)
          rw [this, Option.bind_some]
          by_cases h4 : u.take 4 = [114, 103, 98, 40]
          · rw [if_pos (by simpa using h4), wi_id (by omega) (by omega), show (u.length : Int) - 1 = ((u.length - 1 : Nat) : Int) by omega, at_some (by omega), Option.bind_some]
            have hlast : u.getLast? = some u[u.length - 1] := by rw [List.getLast?_eq_getElem?, List.getElem?_eq_getElem (by omega)]
            by_cases h41 : u.getLast? = some 41
            · rw [if_pos (by rw [hlast] at h41; rw [Option.some.inj h41]; rfl), hR1 ⟨h4, h41, hlen.1⟩]
              have : sub? u 4 ((u.length - 1 : Nat) : Int) = some ((u.take (u.length - 1)).drop 4) := sub_nat (a := 4) (by omega) (by omega)
              rw [this, Option.bind_some]
              have e : (u.take (u.length - 1)).drop 4 = (u.drop 4).dropLast := by rw [List.dropLast_eq_take, List.drop_take, List.length_drop, show u.length - 1 - 4 = u.length - 4 - 1 by omega]
              rw [e]
              obtain ⟨x, h⟩ := rgbColor_eq ((u.drop 4).dropLast) (by simp; omega)
              rw [h]
              exact ⟨x, by cases rgbS ((u.drop 4).dropLast) <;> rfl⟩
            · refine ⟨0, ?_⟩
              rw [if_neg (by
                rw [hlast] at h41
                simp
                intro x
                exact h41 (by rw [Option.some.injEq, ← UInt8.toNat_inj]; exact_mod_cast x)), hR2 fun x => h41 x.2.1]
          · exact ⟨0, by rw [if_neg (by simpa using h4), if_neg (by simp), hR2 fun x => h4 x.1]⟩
        · refine ⟨0, ?_⟩
          rw [if_neg (by simp; omega), if_neg (by simp)]
          by_cases hc : u.take 4 = [114, 103, 98, 40] ∧ u.getLast? = some 41 ∧ 5 < u.length
          · rw [hR1 hc, rgbS_long (by simp; omega)]; rfl
          · rw [hR2 hc]
theorem pureColorReads : PureColorReads := by
  intro s hs
  have hl : s.length ≤ 140737488355327 := Nat.le_trans hs (by decide)
  unfold clerestorylaw2_ColorReads
  rw [red_eq, Option.bind_some, cread_eq s hl, Option.bind_some]
  obtain ⟨x, h⟩ := colorOf_eq s hl
  rw [h, Option.bind_some]
  cases readS s with
  | none => simp
  | some v => simp
end Go.Proofs.YtmpdhpfimmahfaaDoorBv
