/- color.Read in plain words. No program is in sight. -/
import Derived.Test.YtmpdhpfimmahfaaDoorCRgbColorTells
namespace Go.Proofs.YtmpdhpfimmahfaaDoorBv
open Go
set_option linter.unusedSimpArgs false
set_option linter.unusedVariables false
def nameTab : List (List UInt8 × Int) := [([98, 108, 97, 99, 107], 0), ([115, 105, 108, 118, 101, 114], 12632256), ([103, 114, 97, 121], 8421504), ([119, 104, 105, 116, 101], 16777215), ([109, 97, 114, 111, 111, 110], 8388608), ([114, 101, 100], 16711680), ([112, 117, 114, 112, 108, 101], 8388736), ([102, 117, 99, 104, 115, 105, 97], 16711935), ([103, 114, 101, 101, 110], 32768), ([108, 105, 109, 101], 65280), ([111, 108, 105, 118, 101], 8421376), ([121, 101, 108, 108, 111, 119], 16776960), ([110, 97, 118, 121], 128), ([98, 108, 117, 101], 255), ([116, 101, 97, 108], 32896), ([97, 113, 117, 97], 65535), ([111, 114, 97, 110, 103, 101], 16753920)]
def findN (u : List UInt8) : List (List UInt8 × Int) → Option Int
  | [] => none
  | p :: r => if u = p.1 then some p.2 else findN u r
theorem fn_step {u : List UInt8} {p : List UInt8 × Int} {r : List (List UInt8 × Int)} : (match findN u (p :: r) with | some c => (c, true) | none => ((0 : Int), false)) = if decide (u = p.1) = true then (p.2, true) else match findN u r with | some c => (c, true) | none => (0, false) := by
  rw [findN]
  by_cases h : u = p.1
  · rw [if_pos h, if_pos (by simpa using h)]
  · rw [if_neg h, if_neg (by simpa using h)]
theorem named_eq (u : List UInt8) : color_named u = match findN u nameTab with | some c => (c, true) | none => (0, false) := by
  unfold color_named nameTab
  simp only [fn_step]
  rfl
theorem named_range {u : List UInt8} {c : Int} (h : findN u nameTab = some c) : 0 ≤ c ∧ c ≤ 16777215 := by
  have gen : ∀ l : List (List UInt8 × Int), (∀ p, p ∈ l → 0 ≤ p.2 ∧ p.2 ≤ 16777215) → findN u l = some c → 0 ≤ c ∧ c ≤ 16777215 := by
    intro l
    induction l with
    | nil => intro _ h; cases h
    | cons p r ih =>
      intro hp h
      unfold findN at h
      split at h
      · cases h; exact hp p (List.mem_cons_self ..)
      · exact ih (fun q hq => hp q (List.mem_cons_of_mem _ hq)) h
  exact gen nameTab (by decide) h
/-- what color.Read answers; none: an error -/
def readS (s : List UInt8) : Option Int :=
  if s.map lowB = [116, 114, 97, 110, 115, 112, 97, 114, 101, 110, 116] then some 0 else match findN (s.map lowB) nameTab with
    | some c => some (256 * c + 255)
    | none => if (s.map lowB).head? = some 35 then Option.map (fun n : Nat => (n : Int)) (hexS ((s.map lowB).drop 1))
      else if (s.map lowB).take 4 = [114, 103, 98, 40] ∧ (s.map lowB).getLast? = some 41 ∧ 5 < (s.map lowB).length then Option.map (fun n : Nat => (n : Int)) (rgbS ((s.map lowB).drop 4).dropLast) else none
theorem cread_eq (s : List UInt8) (hl : s.length ≤ 140737488355327) : color_Read s = some (match readS s with | some v => (v, 0) | none => (0, 4)) := by
  unfold color_Read readS
  rw [clower_eq (by omega), Option.bind_some]
  generalize hu : s.map lowB = u
  have hul : u.length ≤ 140737488355327 := by rw [← hu, List.length_map]; exact hl
  by_cases ht : u = [116, 114, 97, 110, 115, 112, 97, 114, 101, 110, 116]
  · rw [if_pos (by simpa using ht), if_pos ht]
  · rw [if_neg (by simpa using ht), if_neg ht, named_eq]
    cases hf : findN u nameTab with
    | some c =>
      simp only []
      have := named_range hf
      rw [if_pos trivial, or_byte (by omega) (by omega)]
    | none =>
      simp only []
      rw [if_neg (by simp), cutPre_eq, Option.bind_some]
      have e1 : (u.take ([35] : List UInt8).length = [35]) ↔ u.head? = some 35 := by
        cases u with
        | nil => simp
        | cons x r => simp
      unfold color_Read_j3
      by_cases h35 : u.head? = some 35
      · rw [if_pos (e1.2 h35), if_pos rfl, if_pos h35]
        obtain ⟨x, h⟩ := chex_eq (u.drop 1) (by simp; omega)
        show (color_hex (u.drop 1)).bind _ = _
        rw [h, Option.bind_some]
        cases hexS (u.drop 1) <;> rfl
      · rw [if_neg fun x => h35 (e1.1 x), if_neg (by simp), if_neg h35, cutPre_eq, Option.bind_some]
        unfold color_Read_j4 color_Read_j3
        generalize hR : (if u.take 4 = [114, 103, 98, 40] ∧ u.getLast? = some 41 ∧ 5 < u.length then Option.map (fun n : Nat => (n : Int)) (rgbS ((u.drop 4).dropLast)) else none) = R
        have hR1 : u.take 4 = [114, 103, 98, 40] ∧ u.getLast? = some 41 ∧ 5 < u.length → R = Option.map (fun n : Nat => (n : Int)) (rgbS ((u.drop 4).dropLast)) := fun h => by rw [← hR, if_pos h]
        have hR2 : ¬ (u.take 4 = [114, 103, 98, 40] ∧ u.getLast? = some 41 ∧ 5 < u.length) → R = none := fun h => by rw [← hR, if_neg h]
        clear hR
        by_cases h4 : u.take 4 = [114, 103, 98, 40]
        · have h4' : u.take ([114, 103, 98, 40] : List UInt8).length = [114, 103, 98, 40] := h4
          have hlen := take_le h4'
          rw [if_pos h4', if_pos rfl, hasSuf_eq _ _ (by simp; omega), Option.bind_some]
          show (if (decide ((u.drop 4).getLast? = some 41) && decide (((u.drop 4).length : Int) ≤ 40)) = true then _ else _) = _
          simp only [List.length_cons, List.length_nil] at hlen
          have hd : (u.drop 4).length = u.length - 4 := by simp
          by_cases h5 : 4 < u.length
          · have hgl : (u.drop 4).getLast? = u.getLast? := by
              rw [List.getLast?_drop, if_neg (by omega)]
            rw [hgl]
            by_cases h41 : u.getLast? = some 41
            · by_cases h40 : (u.drop 4).length ≤ 40
              · rw [if_pos (by simp only [h41, decide_true, Bool.true_and, decide_eq_true_eq]; omega)]
                have es : sub? (u.drop 4) 0 (wi (((u.drop 4).length : Int) - 1)) = some ((u.drop 4).dropLast) := by
                  rw [wi_id (by omega) (by omega), show ((u.drop 4).length : Int) - 1 = (((u.drop 4).length - 1 : Nat) : Int) by omega, sub_take (by omega), List.dropLast_eq_take]
                show (sub? (u.drop 4) 0 (wi (((u.drop 4).length : Int) - 1))).bind _ = _
                rw [es, Option.bind_some]
                obtain ⟨x, h⟩ := parts_eq ((u.drop 4).dropLast) (by simp; omega)
                rw [h, Option.bind_some]
                by_cases h6 : 5 < u.length
                · rw [hR1 ⟨h4, h41, h6⟩]
                  cases rgbS ((u.drop 4).dropLast) <;> rfl
                · have : (u.drop 4).dropLast = [] := List.eq_nil_of_length_eq_zero (by simp; omega)
                  rw [this, hR2 fun x => h6 x.2.2, show rgbS [] = none by decide]
                  rfl
              · rw [if_neg (by simp only [h41, decide_true, Bool.true_and, decide_eq_true_eq]; omega), hR1 ⟨h4, h41, by omega⟩, rgbS_long (by rw [List.length_dropLast]; omega)]
                rfl
            · rw [if_neg (by simp [h41]), hR2 fun x => h41 x.2.1]
              rfl
          · have : u.drop 4 = [] := List.drop_eq_nil_of_le (by omega)
            rw [this, if_neg (by simp), hR2 fun x => by omega]
            rfl
        · have h4' : ¬ u.take ([114, 103, 98, 40] : List UInt8).length = [114, 103, 98, 40] := h4
          rw [if_neg h4', hR2 fun x => h4 x.1]
          rfl
theorem red_eq : clerestorylaw2_red = some true := by
  unfold clerestorylaw2_red
  rw [cread_eq _ (by simp), show readS [35, 70, 48, 48] = some 4278190335 by decide +kernel]
  rfl
end Go.Proofs.YtmpdhpfimmahfaaDoorBv
