/- Parts of a color between commas, the program's way and the document's. No program is in sight. -/
import Derived.Test.YtmpdhpfimmahfaaDoorCHexColorTells
namespace Go.Proofs.YtmpdhpfimmahfaaDoorBv
open Go
set_option linter.unusedSimpArgs false
set_option linter.unusedVariables false
def isDig (c : UInt8) : Bool := decide (48 ≤ c.toNat ∧ c.toNat ≤ 57)
def dval (n : Nat) (l : List UInt8) : Nat := l.foldl (fun n c => 10 * n + (c.toNat - 48)) n
/-- a part: digits that tell a number to 255, without a 0 ahead -/
def pv (w : List UInt8) : Option Nat :=
  if (1 ≤ w.length ∧ w.length ≤ 3) ∧ ¬ (w.head? = some 48 ∧ 1 < w.length) ∧ w.all isDig = true ∧ dval 0 w ≤ 255 then some (dval 0 w) else none
def dec3 (n : Nat) : List UInt8 :=
  if n < 10 then [UInt8.ofNat (48 + n)] else if n < 100 then [UInt8.ofNat (48 + n / 10), UInt8.ofNat (48 + n % 10)] else [UInt8.ofNat (48 + n / 100), UInt8.ofNat (48 + n / 10 % 10), UInt8.ofNat (48 + n % 10)]
theorem dec3_eq {n : Nat} (h : n < 1000) : Lib.decDigits n = dec3 n := by
  unfold dec3
  split
  · rename_i h1; exact Lib.decDigits_one h1
  · rename_i h1
    split
    · rename_i h2; exact Lib.decDigits_two h1 h2
    · rename_i h2
      rw [Lib.decDigits, dif_neg h1, Lib.decDigits_two (by omega) (by omega)]
      simp only [List.cons_append, List.nil_append, show n / 10 / 10 = n / 100 by omega]
theorem dec3_all : ((List.range 256).all fun n => decide (pv (dec3 n) = some n) && decide (Lib.atoiAll (dec3 n) = .ok (n : Int))) = true := by decide +kernel
theorem dec3_pv {n : Nat} (h : n < 256) : pv (dec3 n) = some n := by
  have := List.all_eq_true.1 dec3_all n (List.mem_range.2 h)
  rw [Bool.and_eq_true, decide_eq_true_eq] at this
  exact this.1
theorem dec3_atoi {n : Nat} (h : n < 256) : Lib.atoiAll (dec3 n) = .ok (n : Int) := by
  have := List.all_eq_true.1 dec3_all n (List.mem_range.2 h)
  rw [Bool.and_eq_true, decide_eq_true_eq, decide_eq_true_eq] at this
  exact this.2
theorem ofN {c : UInt8} {n : Nat} (h : n = c.toNat) : UInt8.ofNat n = c := by rw [h]; exact UInt8.ofNat_toNat
theorem pv_dec {w : List UInt8} {n : Nat} (h : pv w = some n) : n < 256 ∧ w = dec3 n := by
  unfold pv at h
  split at h
  · rename_i hc
    obtain ⟨⟨h1, h2⟩, h3, h4, h5⟩ := hc
    cases h
    refine ⟨by omega, ?_⟩
    match w, h1, h2 with
    | [a], _, _ =>
      simp [isDig] at h4
      have : dval 0 [a] = a.toNat - 48 := by simp [dval]
      unfold dec3
      rw [this, if_pos (by omega), ofN (c := a) (by omega)]
    | [a, b], _, _ =>
      simp [isDig] at h4
      have ha : a.toNat ≠ 48 := fun e => h3 ⟨by simp; exact UInt8.toNat_inj.1 e, by simp⟩
      have : dval 0 [a, b] = 10 * (a.toNat - 48) + (b.toNat - 48) := by simp [dval]
      unfold dec3
      rw [this, if_neg (by omega), if_pos (by omega), ofN (c := a) (by omega), ofN (c := b) (by omega)]
    | [a, b, c], _, _ =>
      simp [isDig] at h4
      have ha : a.toNat ≠ 48 := fun e => h3 ⟨by simp; exact UInt8.toNat_inj.1 e, by simp⟩
      have : dval 0 [a, b, c] = 10 * (10 * (a.toNat - 48) + (b.toNat - 48)) + (c.toNat - 48) := by simp [dval]
      unfold dec3
      rw [this, if_neg (by omega), if_neg (by omega), ofN (c := a) (by omega), ofN (c := b) (by omega), ofN (c := c) (by omega)]
  · cases h
/-- how the program asks a part -/
theorem ask_part (w : List UInt8) (hl : w.length ≤ 281474976710656) : ∃ n e, strconv_Atoi w = some (n, e) ∧ ((pv w).isSome = false → ((e || (decide (n < 0))) || (decide (255 < n))) = true ∨ ∃ x, strconv_Itoa n = some x ∧ x ≠ w) ∧
    ∀ v, pv w = some v → v < 256 ∧ e = false ∧ n = (v : Int) ∧ strconv_Itoa n = some w := by
  have ha : strconv_Atoi w = some (match Lib.atoiAll w with | .ok v => (v, false) | .syntax => (0, true) | .range => (Lib.atoiSat w, true)) := if_pos hl
  refine ⟨_, _, ha, fun hp => ?_, fun v hv => ?_⟩
  · cases hx : Lib.atoiAll w with
    | ok v =>
      simp only [hx]
      by_cases hv : 0 ≤ v ∧ v ≤ 255
      · right
        refine ⟨Lib.itoa v, if_pos (by omega), fun e => ?_⟩
        obtain ⟨m, rfl⟩ : ∃ m : Nat, v = m := ⟨v.toNat, by omega⟩
        unfold Lib.itoa at e
        rw [if_neg (by omega), Int.toNat_natCast, dec3_eq (by omega)] at e
        rw [← e, dec3_pv (by omega)] at hp
        cases hp
      · left
        simp; omega
    | «syntax» => left; simp
    | range => left; simp
  · obtain ⟨h1, h2⟩ := pv_dec hv
    have hx : Lib.atoiAll w = .ok (v : Int) := by rw [h2]; exact dec3_atoi h1
    refine ⟨h1, by simp [hx], by simp [hx], ?_⟩
    simp only [hx]
    show itoa? _ = _
    unfold itoa?
    rw [if_pos (by omega)]
    congr 1
    unfold Lib.itoa
    rw [if_neg (by omega), Int.toNat_natCast, dec3_eq (by omega), h2]
/-- a part behind a comma may have a blank ahead -/
def tr (i : Nat) (w : List UInt8) : List UInt8 := if 0 < i ∧ w.head? = some 32 then w.drop 1 else w
theorem tr_le (i : Nat) (w : List UInt8) : (tr i w).length ≤ w.length := by unfold tr; split <;> simp
def seqV : Nat → Nat → List (List UInt8) → Option Nat
  | _, n, [] => some n
  | i, n, w :: ws => (pv (tr i w)).bind fun v => seqV (i + 1) (256 * n + v) ws
theorem seqV_app : ∀ (a : List (List UInt8)) (i n : Nat) (b : List (List UInt8)), seqV i n (a ++ b) = (seqV i n a).bind fun n' => seqV (i + a.length) n' b
  | [], i, n, b => rfl
  | w :: ws, i, n, b => by
    rw [List.cons_append]
    simp only [seqV]
    cases pv (tr i w) with
    | none => rfl
    | some v =>
      simp only [Option.bind_some]
      rw [seqV_app ws (i + 1) _ b, List.length_cons, show i + 1 + ws.length = i + (ws.length + 1) by omega]
theorem seqV_len : ∀ (a : List (List UInt8)) (i n n' : Nat), seqV i n a = some n' → ∀ w, w ∈ a → w.length ≤ 4
  | [], i, n, n', h => fun w hw => absurd hw List.not_mem_nil
  | w :: ws, i, n, n', h => fun x hx => by
    simp only [seqV] at h
    obtain ⟨v, hv, h2⟩ := Option.bind_eq_some_iff.1 h
    rcases List.mem_cons.1 hx with rfl | hx
    · have hl : (tr i x).length ≤ 3 := by
        unfold pv at hv
        split at hv
        · rename_i hc; exact hc.1.2
        · cases hv
      unfold tr at hl
      split at hl
      · simp at hl; omega
      · omega
    · exact seqV_len ws (i + 1) _ n' h2 x hx
/-- the color of what stands between the brackets -/
def rgbS (t : List UInt8) : Option Nat := (seqV 0 0 (cutB 44 t)).bind fun n => if (cutB 44 t).length = 3 then some (256 * n + 255) else if (cutB 44 t).length = 4 then some n else none
theorem sum_le {l : List (List UInt8)} (h : ∀ w, w ∈ l → w.length ≤ 4) : (l.map List.length).sum ≤ 4 * l.length := by
  induction l with
  | nil => simp
  | cons x r ih =>
    have h1 := h x (List.mem_cons_self ..)
    have h2 := ih fun w hw => h w (List.mem_cons_of_mem _ hw)
    simp
    omega
theorem rgbS_long {t : List UInt8} (h : 20 ≤ t.length) : rgbS t = none := by
  unfold rgbS
  cases hs : seqV 0 0 (cutB 44 t) with
  | none => rfl
  | some n =>
    have h1 := sum_le (seqV_len _ _ _ _ hs)
    have h2 := cutB_total 44 t
    rw [Option.bind_some, if_neg (by omega), if_neg (by omega)]
/-! ### the program's way -/
theorem parts_l0 (l : List (List UInt8)) (hb : ∀ w, w ∈ l → w.length ≤ 1000) (hn : l.length ≤ 1000) (K : List (List UInt8) → Int → Option (Int × Bool)) : ∀ (d i : Nat) (c : Int) (n : Nat), i + d = l.length → (l.length ≤ 4 → c = (n : Int) ∧ n < 256 ^ i) →
    (seqV i n (l.drop i) = none → ∀ m, color_parts_l0 l K (m + d + 1) l c (i : Int) = some (0, false)) ∧
    (∀ n', seqV i n (l.drop i) = some n' → ∃ c', (l.length ≤ 4 → c' = (n' : Int) ∧ n' < 256 ^ l.length) ∧ ∀ m, color_parts_l0 l K (m + d + 1) l c (i : Int) = K l c')
  | 0, i, c, n, hi, hc => by
    rw [List.drop_eq_nil_of_le (by omega)]
    refine ⟨fun h => (by cases h), fun n' h => ⟨c, ?_, fun m => ?_⟩⟩
    · cases h
      intro h4
      obtain ⟨h1, h2⟩ := hc h4
      exact ⟨h1, by rwa [show i = l.length by omega] at h2⟩
    · rw [color_parts_l0, if_neg (by simp only [decide_eq_true_eq]; omega)]
  | d + 1, i, c, n, hi, hc => by
    have h : i < l.length := by omega
    have hw := hb _ (List.getElem_mem h)
    have hj6 : ∀ k, color_parts_l0 l K (k + 1) l c (i : Int) = color_parts_j6 c (i : Int) l (color_parts_l0 l K k) K l (tr i l[i]) := by
      intro k
      rw [color_parts_l0, if_pos (by simp only [decide_eq_true_eq]; omega), at_some h, Option.bind_some]
      unfold tr
      by_cases h0 : 0 < i
      · rw [if_pos (by simp only [decide_eq_true_eq]; omega), trimPre_eq, Option.bind_some]
        congr 1
        have e : (l[i].take ([32] : List UInt8).length = [32]) ↔ l[i].head? = some 32 := by
          cases l[i] with
          | nil => simp
          | cons x r => simp
        by_cases hh : l[i].head? = some 32
        · rw [if_pos (e.2 hh), if_pos ⟨h0, hh⟩]; rfl
        · rw [if_neg fun x => hh (e.1 x), if_neg fun x => hh x.2]
      · rw [if_neg (by simp only [decide_eq_true_eq]; omega), if_neg fun x => h0 x.1]
    obtain ⟨x, e, g1, g2, g3⟩ := ask_part (tr i l[i]) (by have := tr_le i l[i]; omega)
    rw [List.drop_eq_getElem_cons h]
    simp only [seqV]
    cases hp : pv (tr i l[i]) with
    | none =>
      refine ⟨fun _ m => ?_, fun n' h => (by cases h)⟩
      rw [hj6]
      unfold color_parts_j6 color_parts_j7
      rw [g1, Option.bind_some]
      rcases g2 (by rw [hp]; rfl) with g | ⟨y, g, gn⟩
      · rw [if_pos g, if_pos rfl]
      · split
        · rw [if_pos rfl]
        · rw [g, Option.bind_some, if_pos (by simp [gn])]
    | some v =>
      obtain ⟨hv, rfl, rfl, g4⟩ := g3 v hp
      simp only [Option.bind_some]
      have step : ∀ k, color_parts_l0 l K (k + 1) l c (i : Int) = color_parts_l0 l K k l (bitsV .or .i64 (shl .i64 c 8) (v : Int)) ((i + 1 : Nat) : Int) := by
        intro k
        rw [hj6]
        unfold color_parts_j6 color_parts_j7
        rw [g1, Option.bind_some, if_neg (by simp; omega), g4, Option.bind_some, if_neg (by simp), wi_id (by omega) (by omega)]
        rfl
      have hc' : l.length ≤ 4 → bitsV .or .i64 (shl .i64 c 8) (v : Int) = ((256 * n + v : Nat) : Int) ∧ 256 * n + v < 256 ^ (i + 1) := by
        intro h4
        obtain ⟨rfl, h2⟩ := hc h4
        have h3 : 256 ^ i ≤ 256 ^ 3 := Nat.pow_le_pow_right (by omega) (by omega)
        refine ⟨?_, ?_⟩
        · rw [or_byte (by omega) (by omega)]; omega
        · rw [Nat.pow_succ]; omega
      obtain ⟨i1, i2⟩ := parts_l0 l hb hn K d (i + 1) _ (256 * n + v) (by omega) hc'
      refine ⟨fun hh m => ?_, fun n' hh => ?_⟩
      · rw [show m + (d + 1) + 1 = (m + d + 1) + 1 by omega, step]; exact i1 hh m
      · obtain ⟨c', k1, k2⟩ := i2 n' hh
        exact ⟨c', k1, fun m => by rw [show m + (d + 1) + 1 = (m + d + 1) + 1 by omega, step]; exact k2 m⟩
theorem pv255 : pv [50, 53, 53] = some 255 := by decide
theorem parts_j1 (l : List (List UInt8)) (hb : ∀ w, w ∈ l → w.length ≤ 1000) (hn : l.length ≤ 1000) : ∃ x, color_parts_j1 l = some (match (seqV 0 0 l).bind fun n => if l.length = 4 then some n else none with | some v => ((v : Int), true) | none => (x, false)) := by
  obtain ⟨h1, h2⟩ := parts_l0 l hb hn (fun (l_2 : (List (List UInt8))) (c_1 : Int) => some (c_1, decide ((l_2.length : Int) = 4))) l.length 0 0 0 (by omega) (fun _ => ⟨rfl, by simp⟩)
  rw [List.drop_zero] at h1 h2
  unfold color_parts_j1
  cases hs : seqV 0 0 l with
  | none => exact ⟨0, lim_add (l.length + 1) fun m => by rw [← Nat.add_assoc]; exact h1 hs m⟩
  | some n =>
    obtain ⟨c', k1, k2⟩ := h2 n hs
    refine ⟨c', lim_add (l.length + 1) fun m => ?_⟩
    rw [← Nat.add_assoc]
    refine (k2 m).trans ?_
    rw [Option.bind_some]
    by_cases h4 : l.length = 4
    · rw [if_pos h4, (k1 (by omega)).1]; simp [h4]
    · rw [if_neg h4]
      have : decide ((l.length : Int) = 4) = false := by simp; omega
      rw [this]
theorem parts_eq (t : List UInt8) (ht : t.length ≤ 100) : ∃ x, color_parts t = some (match rgbS t with | some v => ((v : Int), true) | none => (x, false)) := by
  have hn := cutB_length 44 t
  have hb : ∀ w, w ∈ cutB 44 t → w.length ≤ 1000 := fun w hw => by have := (cutB_mem hw).2; omega
  unfold color_parts
  rw [show strings_Split t [44] = some (cutB 44 t) from split_one (by omega), Option.bind_some]
  unfold rgbS
  by_cases h3 : (cutB 44 t).length = 3
  · rw [if_pos (by simp; omega), appq (by simp; omega), Option.bind_some]
    obtain ⟨x, h⟩ := parts_j1 (cutB 44 t ++ [[50, 53, 53]]) (fun w hw => by
      rcases List.mem_append.1 hw with hw | hw
      · exact hb w hw
      · rw [List.mem_singleton] at hw; subst hw; decide) (by simp; omega)
    refine ⟨x, h.trans ?_⟩
    rw [seqV_app, h3]
    cases seqV 0 0 (cutB 44 t) with
    | none => rfl
    | some n =>
      simp only [Option.bind_some, seqV]
      rw [show tr (0 + 3) [50, 53, 53] = [50, 53, 53] from rfl, pv255, Option.bind_some, Option.bind_some, if_pos (by simp [h3])]
      rfl
  · rw [if_neg (by simp; omega)]
    obtain ⟨x, h⟩ := parts_j1 (cutB 44 t) hb (by omega)
    refine ⟨x, h.trans ?_⟩
    simp only [if_neg h3]
end Go.Proofs.YtmpdhpfimmahfaaDoorBv
