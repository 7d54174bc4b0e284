/- Printed by a program of mine (bgen.py): plain functions, and the walks that show that the code comes to what they answer. -/
import Derived.Test.YtaejmblphhjccaaGreatDoorGLookOwners0
namespace Go.Proofs.YtaejmblphhjccaaGreatDoorBv
open Go
set_option linter.unusedVariables false
set_option linter.unusedSimpArgs false
set_option maxRecDepth 100000
def a69 : AFunc := ⟨1, [(.tmp 2)], (sr [(oP 1 (.box (.tmp 0))), (oP 2 (.mov kF))]
 (.seq (.drawn (.fin [((oP 5 (.faddr 0 (.tmp 1))), (0, 0)), ((oP 6 (.load false 1 (.tmp 5))), (0, 1)), ((oP 7 (.bin .eql (.tmp 6) (kI 2))), (0, 2)), ((oP 8 (.faddr 0 (.tmp 1))), (0, 3)), ((oP 9 (.load false 1 (.tmp 8))), (0, 4)), ((oP 10 (.bin .eql (.tmp 9) (kI 3))), (0, 5)), ((mV 11 10), (0, 6)), (⟨(some 12), (.faddr 0 (.tmp 1)), (some (11, false))⟩, (0, 7)), (⟨(some 13), (.load false 1 (.tmp 12)), (some (11, false))⟩, (0, 8)), (⟨(some 14), (.bin .eql (.tmp 13) (kI 4)), (some (11, false))⟩, (0, 9)), ((oP 15 (.pick (.tmp 11) kT (.tmp 14))), (0, 10)), ((mV 3 7), (0, 11)), ((mV 4 15), (0, 12))]))
 (sr [(mV 16 3), (mV 17 16), ⟨(some 18), (.faddr 0 (.tmp 1)), (some (17, false))⟩, ⟨(some 19), (.load false 1 (.tmp 18)), (some (17, false))⟩, ⟨(some 20), (.bin .eql (.tmp 19) (kI 5)), (some (17, false))⟩, (oP 21 (.pick (.tmp 17) kT (.tmp 20))), (mV 22 21), ⟨(some 23), (.faddr 1 (.tmp 1)), (some (22, false))⟩, ⟨(some 24), (.load false 1 (.tmp 23)), (some (22, false))⟩, ⟨(some 25), (.bin .eql (.tmp 24) (.const (.c (.str [])))), (some (22, false))⟩, (oP 26 (.pick (.tmp 22) kT (.tmp 25))), (mV 27 26), ⟨(some 28), (.mov (.tmp 3)), (some (27, true))⟩, ⟨(some 29), (.mov (.tmp 28)), (some (27, true))⟩, ⟨(some 30), (.faddr 2 (.tmp 1)), (some (29, false))⟩, ⟨(some 31), (.load false 1 (.tmp 30)), (some (29, false))⟩, ⟨(some 32), (.len (.tmp 31)), (some (29, false))⟩, ⟨(some 33), (.bin .eql (.tmp 32) (kI 0)), (some (29, false))⟩, ⟨(some 34), (.pick (.tmp 29) kT (.tmp 33)), (some (27, true))⟩, (oP 35 (.pick (.tmp 27) (.tmp 34) kF)), (mV 36 35), ⟨(some 37), (.mov (.tmp 4)), (some (36, true))⟩, ⟨(some 38), (.mov (.tmp 37)), (some (36, true))⟩, ⟨(some 39), (.faddr 3 (.tmp 1)), (some (38, false))⟩, ⟨(some 40), (.load false 1 (.tmp 39)), (some (38, false))⟩, ⟨(some 41), (.bin .eql (.tmp 40) (.const (.c (.str [])))), (some (38, false))⟩, ⟨(some 42), (.pick (.tmp 38) kT (.tmp 41)), (some (36, true))⟩, (oP 43 (.pick (.tmp 36) (.tmp 42) kF)), (mV 44 43), ⟨(some 45), (.faddr 0 (.tmp 1)), (some (44, true))⟩, ⟨(some 46), (.load false 1 (.tmp 45)), (some (44, true))⟩, ⟨(some 47), (.call 106 [(.tmp 46)]), (some (44, true))⟩, ⟨(some 48), (.mov (.tmp 47)), (some (44, true))⟩, ⟨(some 49), (.faddr 5 (.tmp 1)), (some (48, false))⟩, ⟨(some 50), (.load false 1 (.tmp 49)), (some (48, false))⟩, ⟨(some 51), (.len (.tmp 50)), (some (48, false))⟩, ⟨(some 52), (.bin .eql (.tmp 51) (kI 0)), (some (48, false))⟩, ⟨(some 53), (.pick (.tmp 48) kT (.tmp 52)), (some (44, true))⟩, (oP 54 (.pick (.tmp 44) (.tmp 53) kF)), (mV 2 54)]
 .ret)))⟩
theorem c69 : compFunc Tryz.prog 69 = some a69 := by kernel_rfl
def Zab (r : Bool) : AV → Heap → Nat → Prop := fun v h' n' => v = (B r) ∧ (h' = e0) ∧ n' = 0
/-- clerestory/dom.bare -/
def Z1q (x_ : TNode) : Bool :=
 ((((((decide (x_.Kind = 2)) || (decide (x_.Kind = 5))) || (decide (x_.Name = []))) && ((decide (x_.Kind = 2)) || (decide ((x_.Attrs.length : Int) = 0)))) && (((decide (x_.Kind = 3)) || (decide (x_.Kind = 4))) || (decide (x_.Text = [])))) && ((Z16 x_.Kind) || (decide ((x_.Kids.length : Int) = 0))))
theorem Zac {mL : Int} (x_ : TNode) : CPure Tryz.prog (GG mL) 69 [(.agg (e_TNode x_))] (B (Z1q x_)) := by
 generalize h : Z1q x_ = o
 refine acalls_of_sv hmix c69 (R := Zab o) ?_
 unfold Z1q at h
 refine ssr <| un <| a2v (v := (.c (.ref 0 6 0 0))) (h' := upd _ 0 (some (.cells 6 [(e_TNode x_)]))) (n' := 1) rfl rfl hcs <| un1 rfl <| dnil <| Sv.seq <| Sv.drawn <| un1 (v := (.c (.ref 0 6 0 0))) rfl <| un1 (v := (I x_.Kind)) rfl <| un1 (v := (B (decide (x_.Kind = 2)))) rfl <| un1 (v := (.c (.ref 0 6 0 0))) rfl <| un1 (v := (I x_.Kind)) rfl <| un1 (v := (B (decide (x_.Kind = 3)))) rfl <| un1 rfl ?_
 refine gjoin 4 (d := 15) (v := (B ((decide (x_.Kind = 3)) || (decide (x_.Kind = 4))))) (fun X hX => ?_) ?_
 ·refine split2 (fun hc1 => ?_) (fun hc1 => ?_)
  ·refine gs rfl rfl <| gs rfl rfl <| gs rfl rfl <| un1 (v := (B true)) rfl <| dnil ?_
   exact hX _ (.putEq (by rw [hc1]; rfl) (.skp (.skp (.skp (.putEq (by rw [hc1]) (.refl _)) rfl) rfl) rfl))
  ·refine gt rfl <| a1 (v := (.c (.ref 0 6 0 0))) rfl <| gt rfl <| a1 (v := (I x_.Kind)) rfl <| gt rfl <| a1 (v := (B (decide (x_.Kind = 4)))) rfl <| un1 (v := (B (decide (x_.Kind = 4)))) rfl <| dnil ?_
   exact hX _ (.putEq (by rw [hc1]; rfl) (.skp (.skp (.skp (.putEq (by rw [hc1]) (.refl _)) rfl) rfl) rfl))
 refine un1 rfl <| un1 rfl <| dnil <| ssr <| un1 rfl <| un1 rfl ?_
 refine gjoin 4 (d := 21) (v := (B ((decide (x_.Kind = 2)) || (decide (x_.Kind = 5))))) (fun X hX => ?_) ?_
 ·refine split2 (fun hc2 => ?_) (fun hc2 => ?_)
  ·refine gs rfl rfl <| gs rfl rfl <| gs rfl rfl <| un1 (v := (B true)) rfl <| dnil ?_
   exact hX _ (.putEq (by rw [hc2]; rfl) (.skp (.skp (.skp (.putEq (by rw [hc2]) (.refl _)) rfl) rfl) rfl))
  ·refine gt rfl <| a1 (v := (.c (.ref 0 6 0 0))) rfl <| gt rfl <| a1 (v := (I x_.Kind)) rfl <| gt rfl <| a1 (v := (B (decide (x_.Kind = 5)))) rfl <| un1 (v := (B (decide (x_.Kind = 5)))) rfl <| dnil ?_
   exact hX _ (.putEq (by rw [hc2]; rfl) (.skp (.skp (.skp (.putEq (by rw [hc2]) (.refl _)) rfl) rfl) rfl))
 refine un1 rfl ?_
 refine gjoin 4 (d := 26) (v := (B (((decide (x_.Kind = 2)) || (decide (x_.Kind = 5))) || (decide (x_.Name = []))))) (fun X hX => ?_) ?_
 ·refine split2 (fun hc3 => ?_) (fun hc3 => ?_)
  ·refine gs rfl rfl <| gs rfl rfl <| gs rfl rfl <| un1 (v := (B true)) rfl <| dnil ?_
   exact hX _ (.putEq (by rw [hc3]; rfl) (.skp (.skp (.skp (.putEq (by rw [hc3]) (.refl _)) rfl) rfl) rfl))
  ·refine gt rfl <| a1 (v := (.c (.ref 0 6 0 1))) rfl <| gt rfl <| a1 (v := (S x_.Name)) rfl <| gt rfl <| a1 (v := (B (decide (x_.Name = [])))) rfl <| un1 (v := (B (decide (x_.Name = [])))) rfl <| dnil ?_
   exact hX _ (.putEq (by rw [hc3]; rfl) (.skp (.skp (.skp (.putEq (by rw [hc3]) (.refl _)) rfl) rfl) rfl))
 refine un1 rfl ?_
 refine gjoin 8 (d := 35) (v := (B ((((decide (x_.Kind = 2)) || (decide (x_.Kind = 5))) || (decide (x_.Name = []))) && ((decide (x_.Kind = 2)) || (decide ((x_.Attrs.length : Int) = 0)))))) (fun X hX => ?_) ?_
 ·refine split2 (fun hc5 => ?_) (fun hc5 => ?_)
  ·refine gt rfl <| a1 rfl <| gt rfl <| a1 rfl ?_
   refine gjoin 5 (d := 34) (v := (B ((decide (x_.Kind = 2)) || (decide ((x_.Attrs.length : Int) = 0))))) (fun X hX => ?_) ?_
   ·refine split2 (fun hc4 => ?_) (fun hc4 => ?_)
    ·refine gs rfl rfl <| gs rfl rfl <| gs rfl rfl <| gs rfl rfl <| gt rfl <| a1 (v := (B true)) rfl <| dnil ?_
     exact hX _ (.putEq (by rw [hc4]; rfl) (.skp (.skp (.skp (.skp (.putEq (by rw [hc4]) (.refl _)) rfl) rfl) rfl) rfl))
    ·refine gt rfl <| a1 (v := (.c (.ref 0 6 0 2))) rfl <| gt rfl <| a1 (v := (.c (.ro false 2 (x_.Attrs.map e_TAttr)))) rfl <| gt rfl <| a1 (v := (I (x_.Attrs.length : Int))) (s_len (e := e_TAttr) (xs := x_.Attrs) rfl) <| gt rfl <| a1 (v := (B (decide ((x_.Attrs.length : Int) = 0)))) rfl <| gt rfl <| a1 (v := (B (decide ((x_.Attrs.length : Int) = 0)))) rfl <| dnil ?_
     exact hX _ (.putEq (by rw [hc4]; rfl) (.skp (.skp (.skp (.skp (.putEq (by rw [hc4]) (.refl _)) rfl) rfl) rfl) rfl))
   refine un1 (v := (B ((decide (x_.Kind = 2)) || (decide ((x_.Attrs.length : Int) = 0))))) rfl <| dnil ?_
   exact hX _ (.putEq (by rw [hc5]; rfl) (.skp (.skp (.skp (.putEq (by rw [hc5]) (.refl _)) rfl) rfl) rfl))
  ·repeat (first | refine gu rfl ?_ | refine gs rfl rfl ?_)
   refine un1 (v := (B false)) rfl <| dnil ?_
   exact hX _ (.putEq (by rw [hc5]; rfl) (by repeat (first | exact .putEq (by rw [hc5]) (.refl _) | refine .skp ?_ rfl)))
 refine un1 rfl ?_
 refine gjoin 7 (d := 43) (v := (B (((((decide (x_.Kind = 2)) || (decide (x_.Kind = 5))) || (decide (x_.Name = []))) && ((decide (x_.Kind = 2)) || (decide ((x_.Attrs.length : Int) = 0)))) && (((decide (x_.Kind = 3)) || (decide (x_.Kind = 4))) || (decide (x_.Text = [])))))) (fun X hX => ?_) ?_
 ·refine split2 (fun hc7 => ?_) (fun hc7 => ?_)
  ·refine gt rfl <| a1 rfl <| gt rfl <| a1 rfl ?_
   refine gjoin 4 (d := 42) (v := (B (((decide (x_.Kind = 3)) || (decide (x_.Kind = 4))) || (decide (x_.Text = []))))) (fun X hX => ?_) ?_
   ·refine split2 (fun hc6 => ?_) (fun hc6 => ?_)
    ·refine gs rfl rfl <| gs rfl rfl <| gs rfl rfl <| gt rfl <| a1 (v := (B true)) rfl <| dnil ?_
     exact hX _ (.putEq (by rw [hc6]; rfl) (.skp (.skp (.skp (.putEq (by rw [hc6]) (.refl _)) rfl) rfl) rfl))
    ·refine gt rfl <| a1 (v := (.c (.ref 0 6 0 3))) rfl <| gt rfl <| a1 (v := (S x_.Text)) rfl <| gt rfl <| a1 (v := (B (decide (x_.Text = [])))) rfl <| gt rfl <| a1 (v := (B (decide (x_.Text = [])))) rfl <| dnil ?_
     exact hX _ (.putEq (by rw [hc6]; rfl) (.skp (.skp (.skp (.putEq (by rw [hc6]) (.refl _)) rfl) rfl) rfl))
   refine un1 (v := (B (((decide (x_.Kind = 3)) || (decide (x_.Kind = 4))) || (decide (x_.Text = []))))) rfl <| dnil ?_
   exact hX _ (.putEq (by rw [hc7]; rfl) (.skp (.skp (.skp (.putEq (by rw [hc7]) (.refl _)) rfl) rfl) rfl))
  ·repeat (first | refine gu rfl ?_ | refine gs rfl rfl ?_)
   refine un1 (v := (B false)) rfl <| dnil ?_
   exact hX _ (.putEq (by rw [hc7]; rfl) (by repeat (first | exact .putEq (by rw [hc7]) (.refl _) | refine .skp ?_ rfl)))
 refine un1 rfl ?_
 refine gjoin 10 (d := 54) (v := (B ((((((decide (x_.Kind = 2)) || (decide (x_.Kind = 5))) || (decide (x_.Name = []))) && ((decide (x_.Kind = 2)) || (decide ((x_.Attrs.length : Int) = 0)))) && (((decide (x_.Kind = 3)) || (decide (x_.Kind = 4))) || (decide (x_.Text = [])))) && ((Z16 x_.Kind) || (decide ((x_.Kids.length : Int) = 0)))))) (fun X hX => ?_) ?_
 ·refine split2 (fun hc9 => ?_) (fun hc9 => ?_)
  ·refine gt rfl <| a1 (v := (.c (.ref 0 6 0 0))) rfl <| gt rfl <| a1 (v := (I x_.Kind)) rfl <| gt rfl <| ac_pure (Zaa (mL := mL) x_.Kind) rfl rfl rfl <| gt rfl <| a1 rfl ?_
   refine gjoin 5 (d := 53) (v := (B ((Z16 x_.Kind) || (decide ((x_.Kids.length : Int) = 0))))) (fun X hX => ?_) ?_
   ·refine split2 (fun hc8 => ?_) (fun hc8 => ?_)
    ·refine gs rfl rfl <| gs rfl rfl <| gs rfl rfl <| gs rfl rfl <| gt rfl <| a1 (v := (B true)) rfl <| dnil ?_
     exact hX _ (.putEq (by rw [hc8]; rfl) (.skp (.skp (.skp (.skp (.putEq (by rw [hc8]) (.refl _)) rfl) rfl) rfl) rfl))
    ·refine gt rfl <| a1 (v := (.c (.ref 0 6 0 5))) rfl <| gt rfl <| a1 (v := (.c (.ro false 1 (x_.Kids.map eI)))) rfl <| gt rfl <| a1 (v := (I (x_.Kids.length : Int))) (s_len (e := eI) (xs := x_.Kids) rfl) <| gt rfl <| a1 (v := (B (decide ((x_.Kids.length : Int) = 0)))) rfl <| gt rfl <| a1 (v := (B (decide ((x_.Kids.length : Int) = 0)))) rfl <| dnil ?_
     exact hX _ (.putEq (by rw [hc8]; rfl) (.skp (.skp (.skp (.skp (.putEq (by rw [hc8]) (.refl _)) rfl) rfl) rfl) rfl))
   refine un1 (v := (B ((Z16 x_.Kind) || (decide ((x_.Kids.length : Int) = 0))))) rfl <| dnil ?_
   exact hX _ (.putEq (by rw [hc9]; rfl) (by repeat (first | exact .putEq (by rw [hc9]) (.refl _) | refine .skp ?_ rfl)))
  ·repeat (first | refine gu rfl ?_ | refine gs rfl rfl ?_)
   refine un1 (v := (B false)) rfl <| dnil ?_
   exact hX _ (.putEq (by rw [hc9]; rfl) (by repeat (first | exact .putEq (by rw [hc9]) (.refl _) | refine .skp ?_ rfl)))
 refine un1 rfl <| dnil <| Sv.ret ?_
 subst h
 exact ⟨_, .refl _, _, rfl, ⟨upd e0 0 (some (B ((((((decide (x_.Kind = 2)) || (decide (x_.Kind = 5))) || (decide (x_.Name = []))) && ((decide (x_.Kind = 2)) || (decide ((x_.Attrs.length : Int) = 0)))) && (((decide (x_.Kind = 3)) || (decide (x_.Kind = 4))) || (decide (x_.Text = [])))) && ((Z16 x_.Kind) || (decide ((x_.Kids.length : Int) = 0)))))), e0, 0⟩, (B ((((((decide (x_.Kind = 2)) || (decide (x_.Kind = 5))) || (decide (x_.Name = []))) && ((decide (x_.Kind = 2)) || (decide ((x_.Attrs.length : Int) = 0)))) && (((decide (x_.Kind = 3)) || (decide (x_.Kind = 4))) || (decide (x_.Text = [])))) && ((Z16 x_.Kind) || (decide ((x_.Kids.length : Int) = 0))))), weak_canon [] rfl ndl nll nlz (.cf rfl rfl .nil) .nil, rfl, rfl, rfl, rfl⟩
noncomputable abbrev Z6w (s_ : Tx) (c_ : Int) : Option Int := indexByte? s_ c_
/-- strings.IndexByte, by the contract of the shelf -/
theorem Zad {mL : Int} {s_ : Tx} {c_ : Int} {r : Int} (h : Z6w s_ c_ = some r) : CPure Tryz.prog (GG mL) 76 [(S s_), (.c (.val (.int .u8 c_)))] (I r) := indexByte_ok Tryz.lays137 h
noncomputable abbrev Z6x (s_ : Tx) (cutset_ : Tx) : Option Tx := trim? s_ cutset_
/-- strings.Trim, by the contract of the shelf -/
theorem Zae {mL : Int} {s_ : Tx} {cutset_ : Tx} {r : Tx} (h : Z6x s_ cutset_ = some r) : CPure Tryz.prog (GG mL) 158 [(S s_), (S cutset_)] (S r) := trim_ok Tryz.lays160 (by kernel_rfl) h
def a107_c0 : ACode := .ret
def a107 : AFunc := ⟨2, [(.tmp 4)], (sr [(oP 4 (.mov kF))]
 (sr [(mV 5 0), (oP 6 (.bin .neq (.tmp 5) (.const (.c (.str []))))), (mV 7 6), ⟨(some 8), (.mov (.tmp 0)), (some (7, true))⟩, ⟨(some 9), (.lenS (.tmp 8)), (some (7, true))⟩, ⟨(some 10), (.bin .leq (.tmp 9) (kI 40)), (some (7, true))⟩, (oP 11 (.pick (.tmp 7) (.tmp 10) kF)), (mV 12 11), ⟨(some 13), (.mov (.tmp 1)), (some (12, true))⟩, ⟨(some 14), (.mov (.tmp 0)), (some (12, true))⟩, ⟨(some 15), (.idxS (.tmp 14) (kI 0)), (some (12, true))⟩, ⟨(some 16), (.call 76 [(.tmp 13), (.tmp 15)]), (some (12, true))⟩, ⟨(some 17), (.bin .geq (.tmp 16) (kI 0)), (some (12, true))⟩, (oP 18 (.pick (.tmp 12) (.tmp 17) kF)), (mV 19 18), ⟨(some 20), (.mov (.tmp 0)), (some (19, true))⟩, ⟨(some 21), (.call 158 [(.tmp 20), (.const (.c (.str [97, 98, 99, 100, 101, 102, 103, 104, 105, 106, 107, 108, 109, 110, 111, 112, 113, 114, 115, 116, 117, 118, 119, 120, 121, 122, 48, 49, 50, 51, 52, 53, 54, 55, 56, 57, 45, 95, 58])))]), (some (19, true))⟩, ⟨(some 22), (.bin .eql (.tmp 21) (.const (.c (.str [])))), (some (19, true))⟩, (oP 23 (.pick (.tmp 19) (.tmp 22) kF)), (mV 4 23)]
 a107_c0))⟩
theorem c107 : compFunc Tryz.prog 107 = some a107 := by kernel_rfl
def Z6y (r : Bool) : AV → Heap → Nat → Prop := fun v h' n' => v = (B r) ∧ (h' = e0) ∧ n' = 0
noncomputable def Z2e (v4 : Bool) : Option Bool :=
 some v4
theorem Z57 {mL : Int} {v4 : Bool} {o : Bool} (h : Z2e v4 = some o) :
  Sv Tryz.prog (GG mL) 0 a107_c0 (Ends a107.results 0 (Z6y o)) ⟨(upd e0 4 (some (B v4))), e0, 0⟩ := by
 unfold Z2e at h
 refine Sv.ret ?_
 exact rt0 h rfl rfl ⟨rfl, rfl, rfl⟩
/-- clerestory/dom.named -/
noncomputable def Z2f (s_ : Tx) (first_ : Tx) : Option Bool :=
 if ((!decide (s_ = [])) && (decide ((s_.length : Int) ≤ 40))) then
  (at? s_ 0).bind fun c_ =>
  (Z6w first_ (c_.toNat : Int)).bind fun r_ =>
  if decide (0 ≤ r_) then
   (Z6x s_ [97, 98, 99, 100, 101, 102, 103, 104, 105, 106, 107, 108, 109, 110, 111, 112, 113, 114, 115, 116, 117, 118, 119, 120, 121, 122, 48, 49, 50, 51, 52, 53, 54, 55, 56, 57, 45, 95, 58]).bind fun r_1 =>
   Z2e (decide (r_1 = []))
  else
   Z2e false
 else
  Z2e false
theorem Z6z {mL : Int} {s_ : Tx} {first_ : Tx} {r : Bool} (h : Z2f s_ first_ = some r) : CPure Tryz.prog (GG mL) 107 [(S s_), (S first_)] (B r) := by
 refine acalls_of_sv hmix c107 (R := Z6y r) ?_
 unfold Z2f at h
 refine ssr <| un1 rfl <| dnil <| ssr <| un1 rfl <| un1 (v := (B (!decide (s_ = [])))) rfl <| un1 rfl ?_
 refine gjoin 4 (d := 11) (v := (B ((!decide (s_ = [])) && (decide ((s_.length : Int) ≤ 40))))) (fun X hX => ?_) ?_
 ·refine split2 (fun hc1 => ?_) (fun hc1 => ?_)
  ·refine gt rfl <| a1 rfl <| gt rfl <| a1 (v := (I (s_.length : Int))) rfl <| gt rfl <| a1 (v := (B (decide ((s_.length : Int) ≤ 40)))) rfl <| un1 (v := (B (decide ((s_.length : Int) ≤ 40)))) rfl <| dnil ?_
   exact hX _ (.putEq (by rw [hc1]; rfl) (.skp (.skp (.skp (.putEq (by rw [hc1]) (.refl _)) rfl) rfl) rfl))
  ·refine gs rfl rfl <| gs rfl rfl <| gs rfl rfl <| un1 (v := (B false)) rfl <| dnil ?_
   exact hX _ (.putEq (by rw [hc1]; rfl) (.skp (.skp (.skp (.putEq (by rw [hc1]) (.refl _)) rfl) rfl) rfl))
 refine un1 rfl ?_
 refine spl h (fun h => ?_) fun h => ?_
 ·refine gt rfl <| a1 rfl <| gt rfl <| a1 rfl ?_
  obtain ⟨c_, hx1, h⟩ := bnd h
  refine gt rfl <| a1 (v := (.c (.val (.int .u8 (c_.toNat : Int))))) (s_idxS rfl rfl hx1) ?_
  obtain ⟨r_, hr1, h⟩ := bnd h
  refine gt rfl <| ac_pure (Zad hr1) rfl rfl rfl <| gt rfl <| a1 (v := (B (decide (0 ≤ r_)))) rfl <| un1 (v := (B (decide (0 ≤ r_)))) rfl <| un1 rfl ?_
  refine spl h (fun h => ?_) fun h => ?_
  ·refine gt rfl <| a1 rfl ?_
   obtain ⟨r_1, hr2, h⟩ := bnd h
   refine gt rfl <| ac_pure (Zae hr2) rfl rfl rfl <| gt rfl <| a1 (v := (B (decide (r_1 = [])))) rfl <| un1 (v := (B (decide (r_1 = [])))) rfl <| un1 rfl <| dnil ?_
   exact Sv.weak (wcn [] rfl (.cf rfl rfl .nil) .nil) (Z57 h)
  ·refine gs rfl rfl <| gs rfl rfl <| gs rfl rfl <| un1 (v := (B false)) rfl <| un1 rfl <| dnil ?_
   exact Sv.weak (wcn [] rfl (.cf rfl rfl .nil) .nil) (Z57 h)
 ·repeat (first | refine gu rfl ?_ | refine gs rfl rfl ?_)
  refine un1 (v := (B false)) rfl <| un1 rfl <| gs rfl rfl <| gs rfl rfl <| gs rfl rfl <| un1 (v := (B false)) rfl <| un1 rfl <| dnil ?_
  exact Sv.weak (wcn [] rfl (.cf rfl rfl .nil) .nil) (Z57 h)
def a70 : AFunc := ⟨1, [(.tmp 2)], (sr [(oP 2 (.mov kF))]
 (sr [(mV 3 0), (oP 4 (.slStr (.const (.c (.str [97, 98, 99, 100, 101, 102, 103, 104, 105, 106, 107, 108, 109, 110, 111, 112, 113, 114, 115, 116, 117, 118, 119, 120, 121, 122, 48, 49, 50, 51, 52, 53, 54, 55, 56, 57, 45, 95, 58]))) none (some (kI 26)))), (oP 5 (.call 107 [(.tmp 3), (.tmp 4)])), (mV 2 5)]
 .ret))⟩
theorem c70 : compFunc Tryz.prog 70 = some a70 := by kernel_rfl
def Zaf (r : Bool) : AV → Heap → Nat → Prop := fun v h' n' => v = (B r) ∧ (h' = e0) ∧ n' = 0
/-- clerestory/dom.Name -/
noncomputable def Z3a (s_ : Tx) : Option Bool :=
 (sub? [97, 98, 99, 100, 101, 102, 103, 104, 105, 106, 107, 108, 109, 110, 111, 112, 113, 114, 115, 116, 117, 118, 119, 120, 121, 122, 48, 49, 50, 51, 52, 53, 54, 55, 56, 57, 45, 95, 58] 0 26).bind fun r_ =>
 (Z2f s_ r_).bind fun r_1 =>
 some r_1
theorem Zag {mL : Int} {s_ : Tx} {r : Bool} (h : Z3a s_ = some r) : CPure Tryz.prog (GG mL) 70 [(S s_)] (B r) := by
 refine acalls_of_sv hmix c70 (R := Zaf r) ?_
 unfold Z3a at h
 refine ssr <| un1 rfl <| dnil <| ssr <| un1 rfl ?_
 obtain ⟨r_, hx1, h⟩ := bnd h
 refine un1 (v := (S r_)) (s_slStr rfl rfl rfl hx1) ?_
 obtain ⟨r_1, hr1, h⟩ := bnd h
 refine un <| ac_pure (Z6z hr1) rfl rfl rfl <| un1 rfl <| dnil <| Sv.ret ?_
 exact rt0 h rfl rfl ⟨rfl, rfl, rfl⟩
def a108 : AFunc := ⟨1, [(.tmp 2)], (sr [(oP 2 (.mov kF))]
 (sr [(mV 3 0), (oP 4 (.slStr (.const (.c (.str [97, 98, 99, 100, 101, 102, 103, 104, 105, 106, 107, 108, 109, 110, 111, 112, 113, 114, 115, 116, 117, 118, 119, 120, 121, 122, 48, 49, 50, 51, 52, 53, 54, 55, 56, 57, 45, 95, 58]))) none (some (kI 26)))), (oP 5 (.bin .add (.tmp 4) (.const (.c (.str [45, 95]))))), (oP 6 (.call 107 [(.tmp 3), (.tmp 5)])), (mV 2 6)]
 .ret))⟩
theorem c108 : compFunc Tryz.prog 108 = some a108 := by kernel_rfl
def Zah (r : Bool) : AV → Heap → Nat → Prop := fun v h' n' => v = (B r) ∧ (h' = e0) ∧ n' = 0
/-- clerestory/dom.attrName -/
noncomputable def Z3b (s_ : Tx) : Option Bool :=
 (sub? [97, 98, 99, 100, 101, 102, 103, 104, 105, 106, 107, 108, 109, 110, 111, 112, 113, 114, 115, 116, 117, 118, 119, 120, 121, 122, 48, 49, 50, 51, 52, 53, 54, 55, 56, 57, 45, 95, 58] 0 26).bind fun r_ =>
 (cat? r_ [45, 95]).bind fun r_1 =>
 (Z2f s_ r_1).bind fun r_2 =>
 some r_2
theorem Zai {mL : Int} {s_ : Tx} {r : Bool} (h : Z3b s_ = some r) : CPure Tryz.prog (GG mL) 108 [(S s_)] (B r) := by
 refine acalls_of_sv hmix c108 (R := Zah r) ?_
 unfold Z3b at h
 refine ssr <| un1 rfl <| dnil <| ssr <| un1 rfl ?_
 obtain ⟨r_, hx1, h⟩ := bnd h
 refine un1 (v := (S r_)) (s_slStr rfl rfl rfl hx1) ?_
 obtain ⟨r_1, hx2, h⟩ := bnd h
 refine un1 (v := (S r_1)) (s_cat rfl rfl hx2) ?_
 obtain ⟨r_2, hr1, h⟩ := bnd h
 refine un <| ac_pure (Z6z hr1) rfl rfl rfl <| un1 rfl <| dnil <| Sv.ret ?_
 exact rt0 h rfl rfl ⟨rfl, rfl, rfl⟩
def a159 : AFunc := ⟨2, [(.tmp 3)], (sr [(oP 2 (.box (.tmp 0))), (oP 3 (.mov kF))]
 (sr [(oP 4 (.faddr 0 (.tmp 2))), (oP 5 (.load false 1 (.tmp 4))), (oP 6 (.load false 1 (.tmp 1))), (oP 7 (.bin .eql (.tmp 5) (.tmp 6))), (mV 3 7)]
 .ret))⟩
theorem c159 : compFunc Tryz.prog 159 = some a159 := by kernel_rfl
def Zaj (r : Bool) : AV → Heap → Nat → Prop := fun v h' n' => v = (B r) ∧ (h' = e0) ∧ n' = 0
/-- clerestory/dom.find$1 -/
def Z2g (a_ : TAttr) (v1 : Tx) : Bool :=
 decide (a_.Name = v1)
theorem Zak {mL : Int} (a_ : TAttr) (v1 : Tx) : CPure Tryz.prog (GG mL) 159 [(.agg (e_TAttr a_)), (.c (.rop [.str v1]))] (B (Z2g a_ v1)) := by
 generalize h : Z2g a_ v1 = o
 refine acalls_of_sv hmix c159 (R := Zaj o) ?_
 unfold Z2g at h
 refine ssr <| un <| a2v (v := (.c (.ref 0 2 0 0))) (h' := upd _ 0 (some (.cells 2 [(e_TAttr a_)]))) (n' := 1) rfl rfl hcs <| un1 rfl <| dnil <| ssr <| un1 (v := (.c (.ref 0 2 0 0))) rfl <| un1 (v := (S a_.Name)) rfl <| un1 (v := (S v1)) rfl <| un1 (v := (B (decide (a_.Name = v1)))) rfl <| un1 rfl <| dnil <| Sv.ret ?_
 subst h
 exact ⟨_, .refl _, _, rfl, ⟨upd e0 0 (some (B (decide (a_.Name = v1)))), e0, 0⟩, (B (decide (a_.Name = v1))), weak_canon [] rfl ndl nll nlz (.cf rfl rfl .nil) .nil, rfl, rfl, rfl, rfl⟩
def a104_c0 : ACode := (sr [(oP 9 (.bin .lss (.tmp 8) (.tmp 7)))]
 (.seq (.cond (.tmp 9) .skip (.exit 0))
 (.seq (.block 1 (sr [(mV 10 8), (mV 5 10)]
 (sr [(mV 11 1), (mV 12 0), (mV 13 5), (oP 14 (.iaddr 2 (.tmp 12) (.tmp 13))), (oP 15 (.load true 2 (.tmp 14))), (oP 16 (.callv (.tmp 11) [(.tmp 15)]))]
 (.cond (.tmp 16) (sr [(mV 17 5), (mV 4 17)]
 .ret) .skip))))
 (.region [(oP 18 (.bin .add (.tmp 8) (kI 1))), (mV 8 18)]))))
def a104 : AFunc := ⟨2, [(.tmp 4)], (sr [(oP 4 (.mov (kI 0)))]
 (.seq (sr [(mV 6 0), (oP 7 (.len (.tmp 6))), (oP 8 (.mov (kI 0)))]
 (.block 0 (.loop a104_c0)))
 (sr [(oP 4 (.mov (.const (.c (.val (.int .i64 (-1)))))))]
 .ret)))⟩
theorem c104 : compFunc Tryz.prog 104 = some a104 := by kernel_rfl
def Z70 (r : Int) : AV → Heap → Nat → Prop := fun v h' n' => v = (I r) ∧ (h' = e0) ∧ n' = 0
abbrev Zal (F_ : Unit → Option Int) (o : Int) (R_ : St → Prop) : Prop := ∀ (_ : Unit), F_ () = some o → ∀ s, Weak 0 s ⟨e0, e0, 0⟩ → R_ s
abbrev Z71 (s_ : (List TAttr)) (fc : Tx) (F_ : Nat → Int → Option Int) (o : Int) : Nat → St → Prop := fun k s => ∃ (v8 : Int), F_ k v8 = some o ∧ s = ⟨(ue [(8, (I v8)), (7, (I (s_.length : Int))), (1, (.c (.fn (.func 159) [] [.rop [.str fc]]))), (0, (.c (.ro false 2 (s_.map e_TAttr))))]), e0, 0⟩
abbrev Zam (s_ : (List TAttr)) (fc : Tx) (F_ : Int → Option Int) (o : Int) (R_ : St → Prop) : Prop := ∀ (v8 : Int), F_ v8 = some o → ∀ s, Weak 0 s ⟨(ue [(8, (I v8)), (7, (I (s_.length : Int))), (1, (.c (.fn (.func 159) [] [.rop [.str fc]]))), (0, (.c (.ro false 2 (s_.map e_TAttr))))]), e0, 0⟩ → R_ s
noncomputable def Zc (s_ : (List TAttr)) (fc : Tx) (K0_ : Unit → Option Int) : Nat → Int → Option Int
 | 0, _ => none
 | k + 1, v8 =>
  if decide (v8 < (s_.length : Int)) then
   (at? s_ v8).bind fun x_ =>
   if (Z2g x_ fc) then
    some v8
   else
    (Zc s_ fc K0_ k) (wi (v8 + 1))
  else
   K0_ ()
theorem Zan {mL : Int} {Q : AExit → St → Prop} {s_ : (List TAttr)} {fc : Tx} {K0_ : Unit → Option Int} {k : Nat} {v8 : Int} {o : Int} (h : Zc s_ fc K0_ k v8 = some o)
  (hK0 : Zal K0_ o (Q (.exit 0)))
  (hr : ∀ s, Ends a104.results 0 (Z70 o) .ret s → Q .ret s) :
  Sv Tryz.prog (GG mL) 0 (.loop a104_c0) Q ⟨(ue [(8, (I v8)), (7, (I (s_.length : Int))), (1, (.c (.fn (.func 159) [] [.rop [.str fc]]))), (0, (.c (.ro false 2 (s_.map e_TAttr))))]), e0, 0⟩ := by
 refine Sv.loop (I := Z71 s_ fc (Zc s_ fc K0_) o) (fun k s hI => ?_) ⟨v8, h, rfl⟩
 clear h
 clear v8
 obtain ⟨v8, h, rfl⟩ := hI
 cases k with
 | zero => cases h
 | succ k =>
 rw [Zc] at h
 have hself : Zam s_ fc (Zc s_ fc K0_ k) o (rnd 0 (Z71 s_ fc (Zc s_ fc K0_) o) k Q) := fun v8 h s hw => ⟨_, k, hw, Nat.lt_succ_self k, v8, h, rfl⟩
 refine ssr <| un1 (v := (B (decide (v8 < (s_.length : Int))))) rfl <| dnil <| Sv.seq ?_
 refine Sv.cnd rfl h (fun h => ?_) fun h => ?_
 ·refine Sv.skip <| Sv.seq <| Sv.block <| ssr <| un1 rfl <| un1 rfl <| dnil <| ssr <| un1 rfl <| un1 rfl <| un1 rfl ?_
  obtain ⟨x_, hx1, h⟩ := bnd h
  refine un1 (v := (.c (.rop (e_TAttr x_)))) (s_iaddr (e := e_TAttr) (xs := s_) rfl rfl hx1) <| un1 (v := (.agg (e_TAttr x_))) rfl <| un <| acv_gen (bs := []) («as» := [(.agg (e_TAttr x_)), (.c (.rop [.str fc]))]) (h2 := _) (h1 := e0) rfl (by kernel_rfl) (Zak (mL := mL) x_ fc) rfl (.cons (avAs_free rfl) (.cons (avAs_free rfl) .nil)) (hsub_refl _) (.nil _) (fun _ => rfl) (by decide) (by decide) (.cons (avAs_free rfl) (.cons (avAs_free rfl) .nil)) .nil ?_
  rintro _ _ _ hn ⟨rfl, rfl, rfl⟩
  refine ⟨.inl rfl, (rem [] _), fun hbd => (m3_rem (in_nil _) (.nil) hbd), (B (Z2g x_ fc)), 0, rfl, rfl, ?_⟩
  refine dnil ?_
  refine Sv.cnd rfl h (fun h => ?_) fun h => ?_
  ·refine ssr <| un1 rfl <| un1 rfl <| dnil <| Sv.ret ?_
   exact hr _ (rt0 h rfl rfl ⟨rfl, rfl, rfl⟩)
  ·refine Sv.skip <| srg <| un1 (v := (I (wi (v8 + 1)))) rfl <| un1 rfl <| dnil ?_
   exact hself (wi (v8 + 1)) h _ (wcn [] rfl (.cf rfl rfl (.cf rfl rfl (.cons rfl (.c (fn_as .nil (.sm rfl .nil))) (.cf rfl rfl .nil)))) .nil)
 ·refine Sv.exit ?_
  exact hK0 () h _ (wcn [] rfl .nil .nil)
/-- slices.IndexFunc(()clerestory/api.Attr,clerestory/api.Attr) -/
noncomputable def Z4b (s_ : (List TAttr)) (fc : Tx) : Option Int :=
 lim fun kk => Zc s_ fc (fun (_ : Unit) => 
   some (-1)) kk 0
theorem Zao {mL : Int} {s_ : (List TAttr)} {fc : Tx} {r : Int} (h : Z4b s_ fc = some r) : CPure Tryz.prog (GG mL) 104 [(.c (.ro false 2 (s_.map e_TAttr))), (.c (.fn (.func 159) [] [.rop [.str fc]]))] (I r) := by
 refine acalls_of_sv hmix c104 (R := Z70 r) ?_
 unfold Z4b at h
 refine ssr <| un1 rfl <| dnil <| Sv.seq <| ssr <| un1 rfl <| un1 (v := (I (s_.length : Int))) (s_len (e := e_TAttr) (xs := s_) rfl) <| un1 rfl <| dnil <| Sv.block ?_
 obtain ⟨kk, h⟩ := lim_some h
 refine Sv.weak (wcn [] rfl (.cf rfl rfl (.cf rfl rfl (.cons rfl (.c (fn_as .nil (.sm rfl .nil))) (.cf rfl rfl .nil)))) .nil) (Zan h ?_ (fun s hs => hs))
 ·intro _ h _ hw1
  refine Sv.weak hw1 <| ssr <| un1 rfl <| dnil <| Sv.ret ?_
  exact rt0 h rfl rfl ⟨rfl, rfl, rfl⟩
def a109 : AFunc := ⟨2, [(.tmp 4)], (sr [(oP 3 (.box (.tmp 1))), (oP 4 (.mov (kI 0)))]
 (sr [(mV 5 0), (oP 6 (.mkfn (.func 159) [] [(.tmp 3)])), (oP 7 (.call 104 [(.tmp 5), (.tmp 6)])), (mV 4 7)]
 .ret))⟩
theorem c109 : compFunc Tryz.prog 109 = some a109 := by kernel_rfl
def Zap (r : Int) : AV → Heap → Nat → Prop := fun v h' n' => v = (I r) ∧ (h' = e0) ∧ n' = 0
/-- clerestory/dom.find -/
noncomputable def Z3c (l_ : (List TAttr)) (name : Tx) : Option Int :=
 (Z4b l_ name).bind fun r_ =>
 some r_
theorem Zaq {mL : Int} {l_ : (List TAttr)} {name : Tx} {r : Int} (h : Z3c l_ name = some r) : CPure Tryz.prog (GG mL) 109 [(.c (.ro false 2 (l_.map e_TAttr))), (S name)] (I r) := by
 refine acalls_of_sv hmix c109 (R := Zap r) ?_
 unfold Z3c at h
 refine ssr <| un <| a2v (v := (.c (.ref 0 1 0 0))) (h' := upd _ 0 (some (.cells 1 [[.str name]]))) (n' := 1) rfl rfl hcs <| un1 rfl <| dnil <| ssr <| un1 rfl <| un1 (v := (.c (.fn (.func 159) [] [.ref 0 1 0 0]))) rfl ?_
 obtain ⟨r_, hr1, h⟩ := bnd h
 refine un <| ac_gen (bs := []) («as» := [(.c (.ro false 2 (l_.map e_TAttr))), (.c (.fn (.func 159) [] [.rop [.str name]]))]) (h2 := (upd _ 0 none)) (h1 := e0) (Zao hr1) rfl (.cons (avAs_free rfl) (.cons (.c (fn_as .nil (.cons (ref_ro rfl (gone rfl) (.sm rfl .nil) rfl) .nil))) .nil)) (hsub_none (hsub_refl _)) (.nil _) (fun _ => rfl) (by decide) (by decide) (.cons (avAs_free rfl) (.cons (.c (fn_as .nil (.sm rfl .nil))) .nil)) .nil ?_
 rintro _ _ _ hn ⟨rfl, rfl, rfl⟩
 refine ⟨.inr ⟨rfl, .nil⟩, (rem [] _), fun hbd => (m3_rem (in_nil _) (.nil) hbd), (I r_), 1, rfl, rfl, ?_⟩
 refine un1 rfl <| dnil <| Sv.ret ?_
 exact rt0 h rfl rfl ⟨rfl, rfl, rfl⟩
def a71_c0 : ACode := (sr [(oP 11 (.bin .lss (.tmp 10) (.tmp 9)))]
 (.seq (.cond (.tmp 11) .skip (.exit 0))
 (.seq (.block 1 (sr [(mV 12 10), (oP 13 (.iaddr 2 (.tmp 8) (.tmp 10))), (oP 14 (.load true 2 (.tmp 13))), (oP 4 (.box (.const (.agg [(.str []), (.str [])])))), (mV 3 12), (oN (.store 2 (.tmp 4) (.tmp 14)))]
 (.block 2 (sr [(oP 16 (.faddr 0 (.tmp 4))), (oP 17 (.load false 1 (.tmp 16))), (oP 18 (.call 108 [(.tmp 17)])), (oP 19 (.un .not (.tmp 18))), (mV 15 19)]
 (.cond (.tmp 15) (sr [(oP 2 (.mov (kI 3)))]
 .ret) (sr [(oP 21 (.faddr 1 (.tmp 4))), (oP 22 (.load false 1 (.tmp 21))), (oP 23 (.lenS (.tmp 22))), (oP 24 (.bin .gtr (.tmp 23) (kI 400))), (mV 20 24)]
 (.cond (.tmp 20) (sr [(oP 2 (.mov (kI 2)))]
 .ret) (.seq (.drawn (.fin [((mV 26 0), (0, 0)), ((mV 27 3), (0, 1)), ((oP 28 (.slSl 2 (.tmp 26) none (some (.tmp 27)) none)), (0, 2)), ((oP 29 (.faddr 0 (.tmp 4))), (0, 3)), ((oP 30 (.load false 1 (.tmp 29))), (0, 4)), ((oP 31 (.call 109 [(.tmp 28), (.tmp 30)])), (2, 5)), ((oP 32 (.bin .geq (.tmp 31) (kI 0))), (0, 6)), ((mV 25 32), (0, 7))]))
 (.cond (.tmp 25) (sr [(oP 2 (.mov (kI 3)))]
 .ret) .skip)))))))))
 (.region [(oP 33 (.bin .add (.tmp 10) (kI 1))), (mV 10 33)]))))
def a71 : AFunc := ⟨1, [(.tmp 2)], (sr [(oP 2 (.mov (kI 0)))]
 (.seq (sr [(mV 5 0), (oP 6 (.len (.tmp 5))), (oP 7 (.bin .gtr (.tmp 6) (kI 12)))]
 (.cond (.tmp 7) (sr [(oP 2 (.mov (kI 2)))]
 .ret) .skip))
 (.seq (sr [(mV 8 0), (oP 9 (.len (.tmp 8))), (oP 10 (.mov (kI 0)))]
 (.block 0 (.loop a71_c0)))
 (sr [(oP 2 (.mov (kI 0)))]
 .ret))))⟩
theorem c71 : compFunc Tryz.prog 71 = some a71 := by kernel_rfl
def Z72 (r : Int) : AV → Heap → Nat → Prop := fun v h' n' => v = (I r) ∧ (h' = e0) ∧ n' = 0
abbrev Zar (F_ : Unit → Option Int) (o : Int) (R_ : St → Prop) : Prop := ∀ (_ : Unit), F_ () = some o → ∀ s, Weak 0 s ⟨e0, e0, 0⟩ → R_ s
abbrev Z73 (l_ : (List TAttr)) (F_ : Nat → Int → Option Int) (o : Int) : Nat → St → Prop := fun k s => ∃ (v10 : Int), F_ k v10 = some o ∧ s = ⟨(ue [(10, (I v10)), (9, (I (l_.length : Int))), (8, (.c (.ro false 2 (l_.map e_TAttr)))), (0, (.c (.ro false 2 (l_.map e_TAttr))))]), e0, 0⟩
abbrev Zas (l_ : (List TAttr)) (F_ : Int → Option Int) (o : Int) (R_ : St → Prop) : Prop := ∀ (v10 : Int), F_ v10 = some o → ∀ s, Weak 0 s ⟨(ue [(10, (I v10)), (9, (I (l_.length : Int))), (8, (.c (.ro false 2 (l_.map e_TAttr)))), (0, (.c (.ro false 2 (l_.map e_TAttr))))]), e0, 0⟩ → R_ s
noncomputable def Z4 (l_ : (List TAttr)) (K0_ : Unit → Option Int) : Nat → Int → Option Int
 | 0, _ => none
 | k + 1, v10 =>
  if decide (v10 < (l_.length : Int)) then
   (at? l_ v10).bind fun x_ =>
   (Z3b x_.Name).bind fun r_ =>
   if (!r_) then
    some 3
   else
    if decide (400 < (x_.Value.length : Int)) then
     some 2
    else
     (sub? l_ 0 v10).bind fun r_1 =>
     (Z3c r_1 x_.Name).bind fun r_2 =>
     if decide (0 ≤ r_2) then
      some 3
     else
      (Z4 l_ K0_ k) (wi (v10 + 1))
  else
   K0_ ()
theorem Zat {mL : Int} {Q : AExit → St → Prop} {l_ : (List TAttr)} {K0_ : Unit → Option Int} {k : Nat} {v10 : Int} {o : Int} (h : Z4 l_ K0_ k v10 = some o)
  (hK0 : Zar K0_ o (Q (.exit 0)))
  (hr : ∀ s, Ends a71.results 0 (Z72 o) .ret s → Q .ret s) :
  Sv Tryz.prog (GG mL) 0 (.loop a71_c0) Q ⟨(ue [(10, (I v10)), (9, (I (l_.length : Int))), (8, (.c (.ro false 2 (l_.map e_TAttr)))), (0, (.c (.ro false 2 (l_.map e_TAttr))))]), e0, 0⟩ := by
 refine Sv.loop (I := Z73 l_ (Z4 l_ K0_) o) (fun k s hI => ?_) ⟨v10, h, rfl⟩
 clear h
 clear v10
 obtain ⟨v10, h, rfl⟩ := hI
 cases k with
 | zero => cases h
 | succ k =>
 rw [Z4] at h
 have hself : Zas l_ (Z4 l_ K0_ k) o (rnd 0 (Z73 l_ (Z4 l_ K0_) o) k Q) := fun v10 h s hw => ⟨_, k, hw, Nat.lt_succ_self k, v10, h, rfl⟩
 refine ssr <| un1 (v := (B (decide (v10 < (l_.length : Int))))) rfl <| dnil <| Sv.seq ?_
 refine Sv.cnd rfl h (fun h => ?_) fun h => ?_
 ·refine Sv.skip <| Sv.seq <| Sv.block <| ssr <| un1 rfl ?_
  obtain ⟨x_, hx1, h⟩ := bnd h
  refine un1 (v := (.c (.rop (e_TAttr x_)))) (s_iaddr (e := e_TAttr) (xs := l_) rfl rfl hx1) <| un1 (v := (.agg (e_TAttr x_))) rfl <| un <| a2v (v := (.c (.ref 0 2 0 0))) (h' := upd _ 0 (some (.cells 2 [[.str [], .str []]]))) (n' := 1) rfl rfl hcs <| un1 rfl <| un <| a2n (h' := upd _ 0 (some (.cells 2 [(e_TAttr x_)]))) (n' := 1) rfl rfl hcs <| dnil <| Sv.block <| ssr <| un1 (v := (.c (.ref 0 2 0 0))) rfl <| un1 (v := (S x_.Name)) rfl ?_
  obtain ⟨r_, hr1, h⟩ := bnd h
  refine un <| ac_pure (Zai hr1) rfl rfl rfl <| un1 (v := (B (!r_))) rfl <| un1 rfl <| dnil ?_
  refine Sv.cnd rfl h (fun h => ?_) fun h => ?_
  ·refine ssr <| un1 rfl <| dnil <| Sv.ret ?_
   exact hr _ (rt0 h rfl rfl ⟨rfl, rfl, rfl⟩)
  ·refine ssr <| un1 (v := (.c (.ref 0 2 0 1))) rfl <| un1 (v := (S x_.Value)) rfl <| un1 (v := (I (x_.Value.length : Int))) rfl <| un1 (v := (B (decide (400 < (x_.Value.length : Int))))) rfl <| un1 rfl <| dnil ?_
   refine Sv.cnd rfl h (fun h => ?_) fun h => ?_
   ·refine ssr <| un1 rfl <| dnil <| Sv.ret ?_
    exact hr _ (rt0 h rfl rfl ⟨rfl, rfl, rfl⟩)
   ·refine Sv.seq <| Sv.drawn <| un1 rfl <| un1 rfl ?_
    obtain ⟨r_1, hx2, h⟩ := bnd h
    refine un1 (v := (.c (.ro false 2 (r_1.map e_TAttr)))) (s_slSl (e := e_TAttr) rfl rfl rfl hx2) <| un1 (v := (.c (.ref 0 2 0 0))) rfl <| un1 (v := (S x_.Name)) rfl ?_
    obtain ⟨r_2, hr2, h⟩ := bnd h
    refine un <| ac_pure (Zaq hr2) rfl rfl rfl <| un1 (v := (B (decide (0 ≤ r_2)))) rfl <| un1 rfl <| dnil ?_
    refine Sv.cnd rfl h (fun h => ?_) fun h => ?_
    ·refine ssr <| un1 rfl <| dnil <| Sv.ret ?_
     exact hr _ (rt0 h rfl rfl ⟨rfl, rfl, rfl⟩)
    ·refine Sv.skip <| srg <| un1 (v := (I (wi (v10 + 1)))) rfl <| un1 rfl <| dnil ?_
     exact hself (wi (v10 + 1)) h _ (wcn [] rfl (.cf rfl rfl (.cf rfl rfl (.cf rfl rfl (.cf rfl rfl .nil)))) .nil)
 ·refine Sv.exit ?_
  exact hK0 () h _ (wcn [] rfl .nil .nil)
/-- clerestory/dom.attrs -/
noncomputable def Zh (l_ : (List TAttr)) : Option Int :=
 if decide (12 < (l_.length : Int)) then
  some 2
 else
  lim fun kk => Z4 l_ (fun (_ : Unit) => 
    some 0) kk 0
theorem Zau {mL : Int} {l_ : (List TAttr)} {r : Int} (h : Zh l_ = some r) : CPure Tryz.prog (GG mL) 71 [(.c (.ro false 2 (l_.map e_TAttr)))] (I r) := by
 refine acalls_of_sv hmix c71 (R := Z72 r) ?_
 unfold Zh at h
 refine ssr <| un1 rfl <| dnil <| Sv.seq <| ssr <| un1 rfl <| un1 (v := (I (l_.length : Int))) (s_len (e := e_TAttr) (xs := l_) rfl) <| un1 (v := (B (decide (12 < (l_.length : Int))))) rfl <| dnil ?_
 refine Sv.cnd rfl h (fun h => ?_) fun h => ?_
 ·refine ssr <| un1 rfl <| dnil <| Sv.ret ?_
  exact rt0 h rfl rfl ⟨rfl, rfl, rfl⟩
 ·refine Sv.skip <| Sv.seq <| ssr <| un1 rfl <| un1 (v := (I (l_.length : Int))) (s_len (e := e_TAttr) (xs := l_) rfl) <| un1 rfl <| dnil <| Sv.block ?_
  obtain ⟨kk, h⟩ := lim_some h
  refine Sv.weak (wcn [] rfl (.cf rfl rfl (.cf rfl rfl (.cf rfl rfl (.cf rfl rfl .nil)))) .nil) (Zat h ?_ (fun s hs => hs))
  ·intro _ h _ hw1
   refine Sv.weak hw1 <| ssr <| un1 rfl <| dnil <| Sv.ret ?_
   exact rt0 h rfl rfl ⟨rfl, rfl, rfl⟩
def a37_c0 : ACode := (.cond (.tmp 18) (sr [(oP 2 (.mov (kI 3)))]
 .ret) .skip)
def a37_c1 : ACode := (.seq (sr [(oP 28 (.faddr 2 (.tmp 1))), (oP 29 (.load false 1 (.tmp 28))), (oP 30 (.call 71 [(.tmp 29)])), (mV 3 30)]
 (sr [(mV 31 3), (oP 32 (.bin .neq (.tmp 31) (kI 0)))]
 (.cond (.tmp 32) (sr [(mV 33 3), (mV 2 33)]
 .ret) .skip)))
 (.seq (sr [(oP 34 (.faddr 3 (.tmp 1))), (oP 35 (.load false 1 (.tmp 34))), (oP 36 (.lenS (.tmp 35))), (oP 37 (.bin .gtr (.tmp 36) (kI 400))), (mV 38 37), ⟨(some 39), (.faddr 1 (.tmp 1)), (some (38, false))⟩, ⟨(some 40), (.load false 1 (.tmp 39)), (some (38, false))⟩, ⟨(some 41), (.lenS (.tmp 40)), (some (38, false))⟩, ⟨(some 42), (.bin .gtr (.tmp 41) (kI 400)), (some (38, false))⟩, (oP 43 (.pick (.tmp 38) kT (.tmp 42)))]
 (.cond (.tmp 43) (sr [(oP 2 (.mov (kI 2)))]
 .ret) .skip))
 (sr [(oP 2 (.mov (kI 0)))]
 .ret)))
def a37 : AFunc := ⟨1, [(.tmp 2)], (sr [(oP 1 (.box (.tmp 0))), (oP 2 (.mov (kI 0)))]
 (.seq (.block 0 (sr [(oP 5 (.faddr 0 (.tmp 1))), (oP 6 (.load false 1 (.tmp 5))), (oP 7 (.bin .lss (.tmp 6) (kI 1))), (mV 8 7), ⟨(some 9), (.faddr 0 (.tmp 1)), (some (8, false))⟩, ⟨(some 10), (.load false 1 (.tmp 9)), (some (8, false))⟩, ⟨(some 11), (.bin .gtr (.tmp 10) (kI 5)), (some (8, false))⟩, (oP 12 (.pick (.tmp 8) kT (.tmp 11))), (mV 13 12), ⟨(some 14), (.load true 6 (.tmp 1)), (some (13, false))⟩, ⟨(some 15), (.call 69 [(.tmp 14)]), (some (13, false))⟩, ⟨(some 16), (.un .not (.tmp 15)), (some (13, false))⟩, (oP 17 (.pick (.tmp 13) kT (.tmp 16))), (mV 4 17)]
 (.cond (.tmp 4) (sr [(oP 2 (.mov (kI 7)))]
 .ret) (sr [(oP 19 (.faddr 0 (.tmp 1))), (oP 20 (.load false 1 (.tmp 19))), (oP 21 (.bin .eql (.tmp 20) (kI 2))), (mV 22 21), ⟨(some 23), (.faddr 1 (.tmp 1)), (some (22, true))⟩, ⟨(some 24), (.load false 1 (.tmp 23)), (some (22, true))⟩, ⟨(some 25), (.call 70 [(.tmp 24)]), (some (22, true))⟩, ⟨(some 26), (.un .not (.tmp 25)), (some (22, true))⟩, (oP 27 (.pick (.tmp 22) (.tmp 26) kF)), (mV 18 27)]
 a37_c0))))
 a37_c1))⟩
theorem c37 : compFunc Tryz.prog 37 = some a37 := by kernel_rfl
def Z58 (r : Int) : AV → Heap → Nat → Prop := fun v h' n' => v = (I r) ∧ (h' = e0) ∧ n' = 0
abbrev Zav (mL : Int) (o : Int) : AExit → St → Prop := AThen (Sv Tryz.prog (GG mL) 0 a37_c1 (Ends a37.results 0 (Z58 o))) (Ends a37.results 0 (Z58 o))
abbrev Zaw (mL : Int) (o : Int) : AExit → St → Prop := ABlock 0 (Zav mL o)
noncomputable def Zv (x_ : TNode) (v18 : Bool) : Option Int :=
 if v18 then
  some 3
 else
  (Zh x_.Attrs).bind fun r_ =>
  if (!decide (r_ = 0)) then
   some r_
  else
   if ((decide (400 < (x_.Text.length : Int))) || (decide (400 < (x_.Name.length : Int)))) then
    some 2
   else
    some 0
theorem Z74 {mL : Int} {x_ : TNode} {v18 : Bool} {o : Int} (h : Zv x_ v18 = some o) :
  Sv Tryz.prog (GG mL) 0 a37_c0 (Zaw mL o) ⟨(ue [(18, (B v18)), (1, (.c (.ref 0 6 0 0)))]), (upd e0 0 (some (.cells 6 [(e_TNode x_)]))), 1⟩ := by
 unfold Zv at h
 refine Sv.cnd rfl h (fun h => ?_) fun h => ?_
 ·refine ssr <| un1 rfl <| dnil <| Sv.ret ?_
  exact rt0 h rfl rfl ⟨rfl, rfl, rfl⟩
 ·refine Sv.skip <| Sv.seq <| ssr <| un1 (v := (.c (.ref 0 6 0 2))) rfl <| un1 (v := (.c (.ro false 2 (x_.Attrs.map e_TAttr)))) rfl ?_
  obtain ⟨r_, hr1, h⟩ := bnd h
  refine un <| ac_pure (Zau hr1) rfl rfl rfl <| un1 rfl <| dnil <| ssr <| un1 rfl <| un1 (v := (B (!decide (r_ = 0)))) rfl <| dnil ?_
  refine Sv.cnd rfl h (fun h => ?_) fun h => ?_
  ·refine ssr <| un1 rfl <| un1 rfl <| dnil <| Sv.ret ?_
   exact rt0 h rfl rfl ⟨rfl, rfl, rfl⟩
  ·refine Sv.skip <| Sv.seq <| ssr <| un1 (v := (.c (.ref 0 6 0 3))) rfl <| un1 (v := (S x_.Text)) rfl <| un1 (v := (I (x_.Text.length : Int))) rfl <| un1 (v := (B (decide (400 < (x_.Text.length : Int))))) rfl <| un1 rfl ?_
   refine gjoin 5 (d := 43) (v := (B ((decide (400 < (x_.Text.length : Int))) || (decide (400 < (x_.Name.length : Int)))))) (fun X hX => ?_) ?_
   ·refine split2 (fun hc6 => ?_) (fun hc6 => ?_)
    ·refine gs rfl rfl <| gs rfl rfl <| gs rfl rfl <| gs rfl rfl <| un1 (v := (B true)) rfl <| dnil ?_
     exact hX _ (.putEq (by rw [hc6]; rfl) (.skp (.skp (.skp (.skp (.putEq (by rw [hc6]) (.refl _)) rfl) rfl) rfl) rfl))
    ·refine gt rfl <| a1 (v := (.c (.ref 0 6 0 1))) rfl <| gt rfl <| a1 (v := (S x_.Name)) rfl <| gt rfl <| a1 (v := (I (x_.Name.length : Int))) rfl <| gt rfl <| a1 (v := (B (decide (400 < (x_.Name.length : Int))))) rfl <| un1 (v := (B (decide (400 < (x_.Name.length : Int))))) rfl <| dnil ?_
     exact hX _ (.putEq (by rw [hc6]; rfl) (.skp (.skp (.skp (.skp (.putEq (by rw [hc6]) (.refl _)) rfl) rfl) rfl) rfl))
   refine dnil ?_
   refine Sv.cnd rfl h (fun h => ?_) fun h => ?_
   ·refine ssr <| un1 rfl <| dnil <| Sv.ret ?_
    exact rt0 h rfl rfl ⟨rfl, rfl, rfl⟩
   ·refine Sv.skip <| ssr <| un1 rfl <| dnil <| Sv.ret ?_
    exact rt0 h rfl rfl ⟨rfl, rfl, rfl⟩
/-- clerestory/dom.one -/
noncomputable def Zd (x_ : TNode) : Option Int :=
 if (((decide (x_.Kind < 1)) || (decide (5 < x_.Kind))) || (!(Z1q x_))) then
  some 7
 else
  if decide (x_.Kind = 2) then
   (Z3a x_.Name).bind fun r_1 =>
   Zv x_ (!r_1)
  else
   Zv x_ false
theorem Zax {mL : Int} {x_ : TNode} {r : Int} (h : Zd x_ = some r) : CPure Tryz.prog (GG mL) 37 [(.agg (e_TNode x_))] (I r) := by
 refine acalls_of_sv hmix c37 (R := Z58 r) ?_
 unfold Zd at h
 refine ssr <| un <| a2v (v := (.c (.ref 0 6 0 0))) (h' := upd _ 0 (some (.cells 6 [(e_TNode x_)]))) (n' := 1) rfl rfl hcs <| un1 rfl <| dnil <| Sv.seq <| Sv.block <| ssr <| un1 (v := (.c (.ref 0 6 0 0))) rfl <| un1 (v := (I x_.Kind)) rfl <| un1 (v := (B (decide (x_.Kind < 1)))) rfl <| un1 rfl ?_
 refine gjoin 4 (d := 12) (v := (B ((decide (x_.Kind < 1)) || (decide (5 < x_.Kind))))) (fun X hX => ?_) ?_
 ·refine split2 (fun hc1 => ?_) (fun hc1 => ?_)
  ·refine gs rfl rfl <| gs rfl rfl <| gs rfl rfl <| un1 (v := (B true)) rfl <| dnil ?_
   exact hX _ (.putEq (by rw [hc1]; rfl) (.skp (.skp (.skp (.putEq (by rw [hc1]) (.refl _)) rfl) rfl) rfl))
  ·refine gt rfl <| a1 (v := (.c (.ref 0 6 0 0))) rfl <| gt rfl <| a1 (v := (I x_.Kind)) rfl <| gt rfl <| a1 (v := (B (decide (5 < x_.Kind)))) rfl <| un1 (v := (B (decide (5 < x_.Kind)))) rfl <| dnil ?_
   exact hX _ (.putEq (by rw [hc1]; rfl) (.skp (.skp (.skp (.putEq (by rw [hc1]) (.refl _)) rfl) rfl) rfl))
 refine un1 rfl ?_
 refine gjoin 4 (d := 17) (v := (B (((decide (x_.Kind < 1)) || (decide (5 < x_.Kind))) || (!(Z1q x_))))) (fun X hX => ?_) ?_
 ·refine split2 (fun hc2 => ?_) (fun hc2 => ?_)
  ·refine gs rfl rfl <| gs rfl rfl <| gs rfl rfl <| un1 (v := (B true)) rfl <| dnil ?_
   exact hX _ (.putEq (by rw [hc2]; rfl) (.skp (.skp (.skp (.putEq (by rw [hc2]) (.refl _)) rfl) rfl) rfl))
  ·refine gt rfl <| a1 (v := (.agg (e_TNode x_))) rfl <| gt rfl <| ac_pure (Zac (mL := mL) x_) rfl rfl rfl <| gt rfl <| a1 (v := (B (!(Z1q x_)))) rfl <| un1 (v := (B (!(Z1q x_)))) rfl <| dnil ?_
   exact hX _ (.putEq (by rw [hc2]; rfl) (.skp (.skp (.skp (.putEq (by rw [hc2]) (.refl _)) rfl) rfl) rfl))
 refine un1 rfl <| dnil ?_
 refine Sv.cnd rfl h (fun h => ?_) fun h => ?_
 ·refine ssr <| un1 rfl <| dnil <| Sv.ret ?_
  exact rt0 h rfl rfl ⟨rfl, rfl, rfl⟩
 ·refine ssr <| un1 (v := (.c (.ref 0 6 0 0))) rfl <| un1 (v := (I x_.Kind)) rfl <| un1 (v := (B (decide (x_.Kind = 2)))) rfl <| un1 rfl ?_
  refine spl h (fun h => ?_) fun h => ?_
  ·refine gt rfl <| a1 (v := (.c (.ref 0 6 0 1))) rfl <| gt rfl <| a1 (v := (S x_.Name)) rfl ?_
   obtain ⟨r_1, hr2, h⟩ := bnd h
   refine gt rfl <| ac_pure (Zag hr2) rfl rfl rfl <| gt rfl <| a1 (v := (B (!r_1))) rfl <| un1 (v := (B (!r_1))) rfl <| un1 rfl <| dnil ?_
   exact Sv.weak (wcn [0] rfl (.cf rfl rfl (.cr rfl rfl rfl .nil)) (.box (by decide) rfl (blkAs_cells (.sm rfl (.sm rfl (.sm rfl (.sm rfl (.sm rfl (.sm rfl .nil))))))) .nil)) (Z74 h)
  ·refine gs rfl rfl <| gs rfl rfl <| gs rfl rfl <| gs rfl rfl <| un1 (v := (B false)) rfl <| un1 rfl <| dnil ?_
   exact Sv.weak (wcn [0] rfl (.cf rfl rfl (.cr rfl rfl rfl .nil)) (.box (by decide) rfl (blkAs_cells (.sm rfl (.sm rfl (.sm rfl (.sm rfl (.sm rfl (.sm rfl .nil))))))) .nil)) (Z74 h)
def a38_c1 : ACode := (.cond (.tmp 54) (sr [(oP 2 (.mov (kI 7)))]
 .ret) .skip)
def a38_c0 : ACode := (.cond (.tmp 29) (sr [(oP 2 (.mov (kI 3)))]
 .ret) (sr [(mV 55 4), (oP 56 (.bin .eql (.tmp 55) (kI 0))), (mV 57 56), ⟨(some 58), (.faddr 0 (.tmp 1)), (some (57, true))⟩, ⟨(some 59), (.load false 1 (.tmp 58)), (some (57, true))⟩, ⟨(some 60), (.mov (.tmp 7)), (some (57, true))⟩, ⟨(some 61), (.iaddr 6 (.tmp 59) (.tmp 60)), (some (57, true))⟩, ⟨(some 62), (.faddr 0 (.tmp 61)), (some (57, true))⟩, ⟨(some 63), (.load false 1 (.tmp 62)), (some (57, true))⟩, ⟨(some 64), (.bin .eql (.tmp 63) (kI 3)), (some (57, true))⟩, (oP 65 (.pick (.tmp 57) (.tmp 64) kF)), (mV 54 65)]
 a38_c1))
def a38_c3 : ACode := (.region [(mV 66 3), (mV 67 7), (oP 68 (.iaddr 1 (.tmp 66) (.tmp 67))), (oN (.store 1 (.tmp 68) kT))])
def a38_c2 : ACode := (.region [(oP 69 (.bin .add (.tmp 25) (kI 1))), (mV 25 69)])
def a38_c4 : ACode := (sr [(oP 26 (.bin .lss (.tmp 25) (.tmp 24)))]
 (.seq (.cond (.tmp 26) .skip (.exit 2))
 (.seq (.block 3 (sr [(oP 27 (.iaddr 1 (.tmp 23) (.tmp 25))), (oP 28 (.load false 1 (.tmp 27))), (mV 7 28)]
 (.seq (.block 4 (sr [(mV 30 7), (oP 31 (.bin .lss (.tmp 30) (kI 0))), (mV 32 31), ⟨(some 33), (.mov (.tmp 7)), (some (32, false))⟩, ⟨(some 34), (.mov (.tmp 3)), (some (32, false))⟩, ⟨(some 35), (.len (.tmp 34)), (some (32, false))⟩, ⟨(some 36), (.bin .geq (.tmp 33) (.tmp 35)), (some (32, false))⟩, (oP 37 (.pick (.tmp 32) kT (.tmp 36))), (mV 38 37), ⟨(some 39), (.faddr 0 (.tmp 1)), (some (38, false))⟩, ⟨(some 40), (.load false 1 (.tmp 39)), (some (38, false))⟩, ⟨(some 41), (.mov (.tmp 7)), (some (38, false))⟩, ⟨(some 42), (.iaddr 6 (.tmp 40) (.tmp 41)), (some (38, false))⟩, ⟨(some 43), (.faddr 4 (.tmp 42)), (some (38, false))⟩, ⟨(some 44), (.load false 1 (.tmp 43)), (some (38, false))⟩, ⟨(some 45), (.mov (.tmp 4)), (some (38, false))⟩, ⟨(some 46), (.bin .neq (.tmp 44) (.tmp 45)), (some (38, false))⟩, (oP 47 (.pick (.tmp 38) kT (.tmp 46))), (mV 48 47), ⟨(some 49), (.mov (.tmp 3)), (some (48, false))⟩, ⟨(some 50), (.mov (.tmp 7)), (some (48, false))⟩, ⟨(some 51), (.iaddr 1 (.tmp 49) (.tmp 50)), (some (48, false))⟩, ⟨(some 52), (.load false 1 (.tmp 51)), (some (48, false))⟩, (oP 53 (.pick (.tmp 48) kT (.tmp 52))), (mV 29 53)]
 a38_c0))
 a38_c3)))
 a38_c2)))
def a38_c5 : ACode := (sr [(oP 18 (.bin .lss (.tmp 17) (.tmp 16)))]
 (.seq (.cond (.tmp 18) .skip (.exit 0))
 (.seq (.block 1 (sr [(mV 19 17), (oP 20 (.iaddr 6 (.tmp 15) (.tmp 17))), (oP 21 (.load true 6 (.tmp 20))), (oP 5 (.box (.const (.agg [(.val (.int .i64 0)), (.str []), (.ro true 2 []), (.str []), (.val (.int .i64 0)), (.ro true 1 [])])))), (mV 4 19), (oN (.store 6 (.tmp 5) (.tmp 21)))]
 (sr [(oP 22 (.faddr 5 (.tmp 5))), (oP 23 (.load false 1 (.tmp 22))), (oP 24 (.len (.tmp 23))), (oP 25 (.mov (kI 0)))]
 (.block 2 (.loop a38_c4)))))
 (.region [(oP 70 (.bin .add (.tmp 17) (kI 1))), (mV 17 70)]))))
def a38_c6 : ACode := (.cond (.tmp 88) (sr [(oP 2 (.mov (kI 3)))]
 .ret) .skip)
def a38_c7 : ACode := (.region [(oP 89 (.bin .add (.tmp 74) (kI 1))), (mV 74 89)])
def a38_c8 : ACode := (sr [(oP 75 (.bin .lss (.tmp 74) (.tmp 73)))]
 (.seq (.cond (.tmp 75) .skip (.exit 5))
 (.seq (.block 6 (sr [(mV 76 74), (oP 77 (.iaddr 6 (.tmp 72) (.tmp 74))), (oP 78 (.load true 6 (.tmp 77))), (oP 9 (.box (.const (.agg [(.val (.int .i64 0)), (.str []), (.ro true 2 []), (.str []), (.val (.int .i64 0)), (.ro true 1 [])])))), (mV 8 76), (oN (.store 6 (.tmp 9) (.tmp 78)))]
 (sr [(oP 79 (.faddr 4 (.tmp 9))), (oP 80 (.load false 1 (.tmp 79))), (oP 81 (.bin .neq (.tmp 80) (.const (.c (.val (.int .i64 (-1))))))), (mV 82 81), ⟨(some 83), (.mov (.tmp 3)), (some (82, true))⟩, ⟨(some 84), (.mov (.tmp 8)), (some (82, true))⟩, ⟨(some 85), (.iaddr 1 (.tmp 83) (.tmp 84)), (some (82, true))⟩, ⟨(some 86), (.load false 1 (.tmp 85)), (some (82, true))⟩, ⟨(some 87), (.un .not (.tmp 86)), (some (82, true))⟩, (oP 88 (.pick (.tmp 82) (.tmp 87) kF))]
 a38_c6)))
 a38_c7)))
def a38 : AFunc := ⟨1, [(.tmp 2)], (sr [(oP 1 (.box (.tmp 0))), (oP 2 (.mov (kI 0)))]
 (sr [(oP 10 (.faddr 0 (.tmp 1))), (oP 11 (.load false 1 (.tmp 10))), (oP 12 (.len (.tmp 11))), (oP 13 (.mksl 1 1 [(.val (.bool false))] (.tmp 12) (.tmp 12))), (mV 3 13)]
 (.seq (sr [(oP 14 (.faddr 0 (.tmp 1))), (oP 15 (.load false 1 (.tmp 14))), (oP 16 (.len (.tmp 15))), (oP 17 (.mov (kI 0)))]
 (.block 0 (.loop a38_c5)))
 (.seq (sr [(oP 71 (.faddr 0 (.tmp 1))), (oP 72 (.load false 1 (.tmp 71))), (oP 73 (.len (.tmp 72))), (oP 74 (.mov (kI 0)))]
 (.block 5 (.loop a38_c8)))
 (.seq (sr [(oP 90 (.faddr 0 (.tmp 1))), (oP 91 (.load false 1 (.tmp 90))), (oP 92 (.iaddr 6 (.tmp 91) (kI 0))), (oP 93 (.faddr 4 (.tmp 92))), (oP 94 (.load false 1 (.tmp 93))), (oP 95 (.bin .neq (.tmp 94) (.const (.c (.val (.int .i64 (-1)))))))]
 (.cond (.tmp 95) (sr [(oP 2 (.mov (kI 3)))]
 .ret) .skip))
 (sr [(oP 2 (.mov (kI 0)))]
 .ret))))))⟩
theorem c38 : compFunc Tryz.prog 38 = some a38 := by kernel_rfl
def Z1r (r : Int) : AV → Heap → Nat → Prop := fun v h' n' => v = (I r) ∧ (h' = e0) ∧ n' = 0
abbrev Zay (mL : Int) (Q : AExit → St → Prop) : AExit → St → Prop := AThen (Sv Tryz.prog (GG mL) 0 a38_c2 Q) Q
abbrev Z75 (mL : Int) (Q : AExit → St → Prop) : AExit → St → Prop := ABlock 3 (Zay mL Q)
abbrev Zaz (mL : Int) (Q : AExit → St → Prop) : AExit → St → Prop := AThen (Sv Tryz.prog (GG mL) 0 a38_c3 (Z75 mL Q)) (Z75 mL Q)
abbrev Z76 (mL : Int) (Q : AExit → St → Prop) : AExit → St → Prop := ABlock 4 (Zaz mL Q)
abbrev Z59 (v17 : Int) (d_ : TDoc) (x_ : TNode) (F_ : (List Bool) → Int → Option Int) (o : Int) (R_ : St → Prop) : Prop := ∀ (seen2 : (List Bool)) (v25 : Int) (zseen2 : Bool) (_ : zseen2 = true → seen2 = []), F_ seen2 v25 = some o → ∀ s, Weak 0 s ⟨(ue [(25, (I v25)), (24, (I (x_.Kids.length : Int))), (23, (.c (.ro false 1 (x_.Kids.map eI)))), (17, (I v17)), (16, (I (d_.Nodes.length : Int))), (15, (.c (.ro false 6 (d_.Nodes.map e_TNode)))), (4, (I v17)), (3, (lstV zseen2 1 1 seen2.length)), (1, (.c (.ref 0 2 0 0)))]), (upd (upd e0 0 (some (.cells 2 [(e_TDoc d_)]))) 1 (lstB zseen2 1 (seen2.map eB))), 2⟩ → R_ s
abbrev Z5a (d_ : TDoc) (v17 : Int) (F_ : (List Bool) → Option Int) (o : Int) (R_ : St → Prop) : Prop := ∀ (seen3 : (List Bool)) (zseen3 : Bool) (_ : zseen3 = true → seen3 = []), F_ seen3 = some o → ∀ s, Weak 0 s ⟨(ue [(17, (I v17)), (16, (I (d_.Nodes.length : Int))), (15, (.c (.ro false 6 (d_.Nodes.map e_TNode)))), (3, (lstV zseen3 1 1 seen3.length)), (1, (.c (.ref 0 2 0 0)))]), (upd (upd e0 0 (some (.cells 2 [(e_TDoc d_)]))) 1 (lstB zseen3 1 (seen3.map eB))), 2⟩ → R_ s
noncomputable def Z2h (x_1 : Int) (v25 : Int) (v17 : Int) (d_ : TDoc) (x_ : TNode) (self : (List Bool) → Int → Option Int) (K2_ : (List Bool) → Option Int) (seen5 : (List Bool)) (v54 : Bool) : Option Int :=
 if v54 then
  some 7
 else
  (at? seen5 x_1).bind fun x_2 =>
  self (seen5.set x_1.toNat true) (wi (v25 + 1))
theorem Z77 {mL : Int} {Q : AExit → St → Prop} {x_1 : Int} {v25 : Int} {v17 : Int} {d_ : TDoc} {x_ : TNode} {self : (List Bool) → Int → Option Int} {K2_ : (List Bool) → Option Int} {seen5 : (List Bool)} {v54 : Bool} {zseen5 : Bool} (hzseen5 : zseen5 = true → seen5 = []) {o : Int} (h : Z2h x_1 v25 v17 d_ x_ self K2_ seen5 v54 = some o)
  (hself : Z59 v17 d_ x_ self o (Q .normal))
  (hK2 : Z5a d_ v17 K2_ o (Q (.exit 2)))
  (hr : ∀ s, Ends a38.results 0 (Z1r o) .ret s → Q .ret s) :
  Sv Tryz.prog (GG mL) 0 a38_c1 (Z76 mL Q) ⟨(ue [(54, (B v54)), (25, (I v25)), (24, (I (x_.Kids.length : Int))), (23, (.c (.ro false 1 (x_.Kids.map eI)))), (17, (I v17)), (16, (I (d_.Nodes.length : Int))), (15, (.c (.ro false 6 (d_.Nodes.map e_TNode)))), (7, (I x_1)), (4, (I v17)), (3, (lstV zseen5 1 1 seen5.length)), (1, (.c (.ref 0 2 0 0)))]), (upd (upd e0 0 (some (.cells 2 [(e_TDoc d_)]))) 1 (lstB zseen5 1 (seen5.map eB))), 2⟩ := by
 unfold Z2h at h
 refine Sv.cnd rfl h (fun h => ?_) fun h => ?_
 ·refine ssr <| un1 rfl <| dnil <| Sv.ret ?_
  exact hr _ (rt0 h rfl rfl ⟨rfl, rfl, rfl⟩)
 ·refine Sv.skip <| srg <| un1 rfl <| un1 rfl ?_
  obtain ⟨x_2, hx4, h⟩ := bnd h
  refine un1 (v := (.c (.ref 1 1 x_1.toNat 0))) (s_iaddrL rfl rfl hzseen5 hx4) <| un <| a2n (h' := upd _ 1 (lstB zseen5 1 ((seen5.set x_1.toNat true).map eB))) (n' := 2) rfl (s_storeL (e := eB) (q' := true) rfl rfl hzseen5 hx4 rfl rfl rfl (Nat.le_of_ble_eq_true rfl) rfl) hcs ?_
  try rw [len_set seen5 x_1.toNat true]
  refine dnil <| srg <| un1 (v := (I (wi (v25 + 1)))) rfl <| un1 rfl <| dnil ?_
  exact hself (seen5.set x_1.toNat true) (wi (v25 + 1)) zseen5 (hz_len hzseen5 (len_set seen5 x_1.toNat true)) h _ (wcn [0, 1] rfl (.cf rfl rfl (.cf rfl rfl (.cf rfl rfl (.cf rfl rfl (.cf rfl rfl (.cf rfl rfl (.cf rfl rfl (.cons rfl (.c (lsr rfl rfl)) (.cr rfl rfl rfl .nil))))))))) (.row (by decide) rfl (fr_map fun _ => rfl) (.box (by decide) rfl (blkAs_cells (.sm rfl (.sm rfl .nil))) .nil)))
noncomputable def Zw (v17 : Int) (d_ : TDoc) (x_1 : Int) (v25 : Int) (x_ : TNode) (self : (List Bool) → Int → Option Int) (K2_ : (List Bool) → Option Int) (seen4 : (List Bool)) (v29 : Bool) : Option Int :=
 if v29 then
  some 3
 else
  if decide (v17 = 0) then
   (at? d_.Nodes x_1).bind fun x_3 =>
   Z2h x_1 v25 v17 d_ x_ self K2_ seen4 (decide (x_3.Kind = 3))
  else
   Z2h x_1 v25 v17 d_ x_ self K2_ seen4 false
theorem Z5b {mL : Int} {Q : AExit → St → Prop} {v17 : Int} {d_ : TDoc} {x_1 : Int} {v25 : Int} {x_ : TNode} {self : (List Bool) → Int → Option Int} {K2_ : (List Bool) → Option Int} {seen4 : (List Bool)} {v29 : Bool} {zseen4 : Bool} (hzseen4 : zseen4 = true → seen4 = []) {o : Int} (h : Zw v17 d_ x_1 v25 x_ self K2_ seen4 v29 = some o)
  (hself : Z59 v17 d_ x_ self o (Q .normal))
  (hK2 : Z5a d_ v17 K2_ o (Q (.exit 2)))
  (hr : ∀ s, Ends a38.results 0 (Z1r o) .ret s → Q .ret s) :
  Sv Tryz.prog (GG mL) 0 a38_c0 (Z76 mL Q) ⟨(ue [(29, (B v29)), (25, (I v25)), (24, (I (x_.Kids.length : Int))), (23, (.c (.ro false 1 (x_.Kids.map eI)))), (17, (I v17)), (16, (I (d_.Nodes.length : Int))), (15, (.c (.ro false 6 (d_.Nodes.map e_TNode)))), (7, (I x_1)), (4, (I v17)), (3, (lstV zseen4 1 1 seen4.length)), (1, (.c (.ref 0 2 0 0)))]), (upd (upd e0 0 (some (.cells 2 [(e_TDoc d_)]))) 1 (lstB zseen4 1 (seen4.map eB))), 2⟩ := by
 unfold Zw at h
 refine Sv.cnd rfl h (fun h => ?_) fun h => ?_
 ·refine ssr <| un1 rfl <| dnil <| Sv.ret ?_
  exact hr _ (rt0 h rfl rfl ⟨rfl, rfl, rfl⟩)
 ·refine ssr <| un1 rfl <| un1 (v := (B (decide (v17 = 0)))) rfl <| un1 rfl ?_
  refine spl h (fun h => ?_) fun h => ?_
  ·refine gt rfl <| a1 (v := (.c (.ref 0 2 0 0))) rfl <| gt rfl <| a1 (v := (.c (.ro false 6 (d_.Nodes.map e_TNode)))) rfl <| gt rfl <| a1 rfl ?_
   obtain ⟨x_3, hx5, h⟩ := bnd h
   refine gt rfl <| a1 (v := (.c (.rop (e_TNode x_3)))) (s_iaddr (e := e_TNode) (xs := d_.Nodes) rfl rfl hx5) <| gt rfl <| a1 (v := (.c (.rop (e_TNode x_3)))) rfl <| gt rfl <| a1 (v := (I x_3.Kind)) rfl <| gt rfl <| a1 (v := (B (decide (x_3.Kind = 3)))) rfl <| un1 (v := (B (decide (x_3.Kind = 3)))) rfl <| un1 rfl <| dnil ?_
   exact Sv.weak (wcn [0, 1] rfl (.cf rfl rfl (.cf rfl rfl (.cf rfl rfl (.cf rfl rfl (.cf rfl rfl (.cf rfl rfl (.cf rfl rfl (.cf rfl rfl (.cf rfl rfl (.cons rfl (.c (lsr rfl rfl)) (.cr rfl rfl rfl .nil))))))))))) (.row (by decide) rfl (fr_map fun _ => rfl) (.box (by decide) rfl (blkAs_cells (.sm rfl (.sm rfl .nil))) .nil))) (Z77 hzseen4 h hself hK2 hr)
  ·repeat (first | refine gu rfl ?_ | refine gs rfl rfl ?_)
   refine un1 (v := (B false)) rfl <| un1 rfl <| dnil ?_
   exact Sv.weak (wcn [0, 1] rfl (.cf rfl rfl (.cf rfl rfl (.cf rfl rfl (.cf rfl rfl (.cf rfl rfl (.cf rfl rfl (.cf rfl rfl (.cf rfl rfl (.cf rfl rfl (.cons rfl (.c (lsr rfl rfl)) (.cr rfl rfl rfl .nil))))))))))) (.row (by decide) rfl (fr_map fun _ => rfl) (.box (by decide) rfl (blkAs_cells (.sm rfl (.sm rfl .nil))) .nil))) (Z77 hzseen4 h hself hK2 hr)
abbrev Z78 (v17 : Int) (d_ : TDoc) (x_ : TNode) (F_ : Nat → (List Bool) → Int → Option Int) (o : Int) : Nat → St → Prop := fun k s => ∃ (seen2 : (List Bool)), ∃ (v25 : Int), ∃ (zseen2 : Bool), (zseen2 = true → seen2 = []) ∧ F_ k seen2 v25 = some o ∧ s = ⟨(ue [(25, (I v25)), (24, (I (x_.Kids.length : Int))), (23, (.c (.ro false 1 (x_.Kids.map eI)))), (17, (I v17)), (16, (I (d_.Nodes.length : Int))), (15, (.c (.ro false 6 (d_.Nodes.map e_TNode)))), (4, (I v17)), (3, (lstV zseen2 1 1 seen2.length)), (1, (.c (.ref 0 2 0 0)))]), (upd (upd e0 0 (some (.cells 2 [(e_TDoc d_)]))) 1 (lstB zseen2 1 (seen2.map eB))), 2⟩
noncomputable def Z0 (x_ : TNode) (v17 : Int) (d_ : TDoc) (K2_ : (List Bool) → Option Int) : Nat → (List Bool) → Int → Option Int
 | 0, _, _ => none
 | k + 1, seen2, v25 =>
  if decide (v25 < (x_.Kids.length : Int)) then
   (at? x_.Kids v25).bind fun x_1 =>
   if ((decide (x_1 < 0)) || (decide ((seen2.length : Int) ≤ x_1))) then
    Zw v17 d_ x_1 v25 x_ (Z0 x_ v17 d_ K2_ k) K2_ seen2 true
   else
    (at? d_.Nodes x_1).bind fun x_4 =>
    if (!decide (x_4.Parent = v17)) then
     Zw v17 d_ x_1 v25 x_ (Z0 x_ v17 d_ K2_ k) K2_ seen2 true
    else
     (at? seen2 x_1).bind fun x_5 =>
     Zw v17 d_ x_1 v25 x_ (Z0 x_ v17 d_ K2_ k) K2_ seen2 x_5
  else
   K2_ seen2
theorem Zb0 {mL : Int} {Q : AExit → St → Prop} {x_ : TNode} {v17 : Int} {d_ : TDoc} {K2_ : (List Bool) → Option Int} {k : Nat} {seen2 : (List Bool)} {v25 : Int} {zseen2 : Bool} (hzseen2 : zseen2 = true → seen2 = []) {o : Int} (h : Z0 x_ v17 d_ K2_ k seen2 v25 = some o)
  (hK2 : Z5a d_ v17 K2_ o (Q (.exit 2)))
  (hr : ∀ s, Ends a38.results 0 (Z1r o) .ret s → Q .ret s) :
  Sv Tryz.prog (GG mL) 0 (.loop a38_c4) Q ⟨(ue [(25, (I v25)), (24, (I (x_.Kids.length : Int))), (23, (.c (.ro false 1 (x_.Kids.map eI)))), (17, (I v17)), (16, (I (d_.Nodes.length : Int))), (15, (.c (.ro false 6 (d_.Nodes.map e_TNode)))), (4, (I v17)), (3, (lstV zseen2 1 1 seen2.length)), (1, (.c (.ref 0 2 0 0)))]), (upd (upd e0 0 (some (.cells 2 [(e_TDoc d_)]))) 1 (lstB zseen2 1 (seen2.map eB))), 2⟩ := by
 refine Sv.loop (I := Z78 v17 d_ x_ (Z0 x_ v17 d_ K2_) o) (fun k s hI => ?_) ⟨seen2, v25, zseen2, hzseen2, h, rfl⟩
 clear h
 clear hzseen2 zseen2 v25 seen2
 obtain ⟨seen2, v25, zseen2, hzseen2, h, rfl⟩ := hI
 cases k with
 | zero => cases h
 | succ k =>
 rw [Z0] at h
 have hself : Z59 v17 d_ x_ (Z0 x_ v17 d_ K2_ k) o (rnd 0 (Z78 v17 d_ x_ (Z0 x_ v17 d_ K2_) o) k Q) := fun seen2 v25 zseen2 hzseen2 h s hw => ⟨_, k, hw, Nat.lt_succ_self k, seen2, v25, zseen2, hzseen2, h, rfl⟩
 refine ssr <| un1 (v := (B (decide (v25 < (x_.Kids.length : Int))))) rfl <| dnil <| Sv.seq ?_
 refine Sv.cnd rfl h (fun h => ?_) fun h => ?_
 ·refine Sv.skip <| Sv.seq <| Sv.block <| ssr ?_
  obtain ⟨x_1, hx3, h⟩ := bnd h
  refine un1 (v := (.c (.rop [cI x_1]))) (s_iaddr (e := eI) (xs := x_.Kids) rfl rfl hx3) <| un1 (v := (I x_1)) rfl <| un1 rfl <| dnil <| Sv.seq <| Sv.block <| ssr <| un1 rfl <| un1 (v := (B (decide (x_1 < 0)))) rfl <| un1 rfl ?_
  refine gjoin 5 (d := 37) (v := (B ((decide (x_1 < 0)) || (decide ((seen2.length : Int) ≤ x_1))))) (fun X hX => ?_) ?_
  ·refine split2 (fun hc6 => ?_) (fun hc6 => ?_)
   ·refine gs rfl rfl <| gs rfl rfl <| gs rfl rfl <| gs rfl rfl <| un1 (v := (B true)) rfl <| dnil ?_
    exact hX _ (.putEq (by rw [hc6]; rfl) (.skp (.skp (.skp (.skp (.putEq (by rw [hc6]) (.refl _)) rfl) rfl) rfl) rfl))
   ·refine gt rfl <| a1 rfl <| gt rfl <| a1 rfl <| gt rfl <| a1 (v := (I (seen2.length : Int))) (s_lenL rfl (len_nil_of hzseen2)) <| gt rfl <| a1 (v := (B (decide ((seen2.length : Int) ≤ x_1)))) rfl <| un1 (v := (B (decide ((seen2.length : Int) ≤ x_1)))) rfl <| dnil ?_
    exact hX _ (.putEq (by rw [hc6]; rfl) (.skp (.skp (.skp (.skp (.putEq (by rw [hc6]) (.refl _)) rfl) rfl) rfl) rfl))
  refine un1 rfl ?_
  refine spl h (fun h => ?_) fun h => ?_
  ·repeat (first | refine gu rfl ?_ | refine gs rfl rfl ?_)
   refine un1 (v := (B true)) rfl <| un1 rfl <| gs rfl rfl <| gs rfl rfl <| gs rfl rfl <| gs rfl rfl <| un1 (v := (B true)) rfl <| un1 rfl <| dnil ?_
   exact Sv.weak (wcn [0, 1] rfl (.cf rfl rfl (.cf rfl rfl (.cf rfl rfl (.cf rfl rfl (.cf rfl rfl (.cf rfl rfl (.cf rfl rfl (.cf rfl rfl (.cf rfl rfl (.cons rfl (.c (lsr rfl rfl)) (.cr rfl rfl rfl .nil))))))))))) (.row (by decide) rfl (fr_map fun _ => rfl) (.box (by decide) rfl (blkAs_cells (.sm rfl (.sm rfl .nil))) .nil))) (Z5b hzseen2 h hself hK2 hr)
  ·refine gt rfl <| a1 (v := (.c (.ref 0 2 0 0))) rfl <| gt rfl <| a1 (v := (.c (.ro false 6 (d_.Nodes.map e_TNode)))) rfl <| gt rfl <| a1 rfl ?_
   obtain ⟨x_4, hx6, h⟩ := bnd h
   refine gt rfl <| a1 (v := (.c (.rop (e_TNode x_4)))) (s_iaddr (e := e_TNode) (xs := d_.Nodes) rfl rfl hx6) <| gt rfl <| a1 (v := (.c (.rop [cI x_4.Parent, .ro false 1 (x_4.Kids.map eI)]))) rfl <| gt rfl <| a1 (v := (I x_4.Parent)) rfl <| gt rfl <| a1 rfl <| gt rfl <| a1 (v := (B (!decide (x_4.Parent = v17)))) rfl <| un1 (v := (B (!decide (x_4.Parent = v17)))) rfl <| un1 rfl ?_
   refine spl h (fun h => ?_) fun h => ?_
   ·refine gs rfl rfl <| gs rfl rfl <| gs rfl rfl <| gs rfl rfl <| un1 (v := (B true)) rfl <| un1 rfl <| dnil ?_
    exact Sv.weak (wcn [0, 1] rfl (.cf rfl rfl (.cf rfl rfl (.cf rfl rfl (.cf rfl rfl (.cf rfl rfl (.cf rfl rfl (.cf rfl rfl (.cf rfl rfl (.cf rfl rfl (.cons rfl (.c (lsr rfl rfl)) (.cr rfl rfl rfl .nil))))))))))) (.row (by decide) rfl (fr_map fun _ => rfl) (.box (by decide) rfl (blkAs_cells (.sm rfl (.sm rfl .nil))) .nil))) (Z5b hzseen2 h hself hK2 hr)
   ·refine gt rfl <| a1 rfl <| gt rfl <| a1 rfl ?_
    obtain ⟨x_5, hx7, h⟩ := bnd h
    refine gt rfl <| a1 (v := (.c (.ref 1 1 x_1.toNat 0))) (s_iaddrL rfl rfl hzseen2 hx7) <| gt rfl <| a1 (v := (B x_5)) (s_loadL (z := zseen2) (e := eB) rfl rfl hzseen2 hx7 rfl rfl) <| un1 (v := (B x_5)) rfl <| un1 rfl <| dnil ?_
    exact Sv.weak (wcn [0, 1] rfl (.cf rfl rfl (.cf rfl rfl (.cf rfl rfl (.cf rfl rfl (.cf rfl rfl (.cf rfl rfl (.cf rfl rfl (.cf rfl rfl (.cf rfl rfl (.cons rfl (.c (lsr rfl rfl)) (.cr rfl rfl rfl .nil))))))))))) (.row (by decide) rfl (fr_map fun _ => rfl) (.box (by decide) rfl (blkAs_cells (.sm rfl (.sm rfl .nil))) .nil))) (Z5b hzseen2 h hself hK2 hr)
 ·refine Sv.exit ?_
  exact hK2 seen2 zseen2 hzseen2 h _ (wcn [0, 1] rfl (.cf rfl rfl (.cf rfl rfl (.cf rfl rfl (.cons rfl (.c (lsr rfl rfl)) (.cr rfl rfl rfl .nil))))) (.row (by decide) rfl (fr_map fun _ => rfl) (.box (by decide) rfl (blkAs_cells (.sm rfl (.sm rfl .nil))) .nil)))
abbrev Zb1 (d_ : TDoc) (F_ : (List Bool) → Option Int) (o : Int) (R_ : St → Prop) : Prop := ∀ (seen1 : (List Bool)) (zseen1 : Bool) (_ : zseen1 = true → seen1 = []), F_ seen1 = some o → ∀ s, Weak 0 s ⟨(ue [(3, (lstV zseen1 1 1 seen1.length)), (1, (.c (.ref 0 2 0 0)))]), (upd (upd e0 0 (some (.cells 2 [(e_TDoc d_)]))) 1 (lstB zseen1 1 (seen1.map eB))), 2⟩ → R_ s
abbrev Z79 (d_ : TDoc) (F_ : Nat → (List Bool) → Int → Option Int) (o : Int) : Nat → St → Prop := fun k s => ∃ (seen : (List Bool)), ∃ (v17 : Int), ∃ (zseen : Bool), (zseen = true → seen = []) ∧ F_ k seen v17 = some o ∧ s = ⟨(ue [(17, (I v17)), (16, (I (d_.Nodes.length : Int))), (15, (.c (.ro false 6 (d_.Nodes.map e_TNode)))), (3, (lstV zseen 1 1 seen.length)), (1, (.c (.ref 0 2 0 0)))]), (upd (upd e0 0 (some (.cells 2 [(e_TDoc d_)]))) 1 (lstB zseen 1 (seen.map eB))), 2⟩
abbrev Zb2 (d_ : TDoc) (F_ : (List Bool) → Int → Option Int) (o : Int) (R_ : St → Prop) : Prop := ∀ (seen : (List Bool)) (v17 : Int) (zseen : Bool) (_ : zseen = true → seen = []), F_ seen v17 = some o → ∀ s, Weak 0 s ⟨(ue [(17, (I v17)), (16, (I (d_.Nodes.length : Int))), (15, (.c (.ro false 6 (d_.Nodes.map e_TNode)))), (3, (lstV zseen 1 1 seen.length)), (1, (.c (.ref 0 2 0 0)))]), (upd (upd e0 0 (some (.cells 2 [(e_TDoc d_)]))) 1 (lstB zseen 1 (seen.map eB))), 2⟩ → R_ s
noncomputable def Zi (d_ : TDoc) (K0_ : (List Bool) → Option Int) : Nat → (List Bool) → Int → Option Int
 | 0, _, _ => none
 | k + 1, seen, v17 =>
  if decide (v17 < (d_.Nodes.length : Int)) then
   (at? d_.Nodes v17).bind fun x_ =>
   lim fun kk => Z0 x_ v17 d_ (fun (seen3 : (List Bool)) => 
     (Zi d_ K0_ k) seen3 (wi (v17 + 1))) kk seen 0
  else
   K0_ seen
theorem Zb3 {mL : Int} {Q : AExit → St → Prop} {d_ : TDoc} {K0_ : (List Bool) → Option Int} {k : Nat} {seen : (List Bool)} {v17 : Int} {zseen : Bool} (hzseen : zseen = true → seen = []) {o : Int} (h : Zi d_ K0_ k seen v17 = some o)
  (hK0 : Zb1 d_ K0_ o (Q (.exit 0)))
  (hr : ∀ s, Ends a38.results 0 (Z1r o) .ret s → Q .ret s) :
  Sv Tryz.prog (GG mL) 0 (.loop a38_c5) Q ⟨(ue [(17, (I v17)), (16, (I (d_.Nodes.length : Int))), (15, (.c (.ro false 6 (d_.Nodes.map e_TNode)))), (3, (lstV zseen 1 1 seen.length)), (1, (.c (.ref 0 2 0 0)))]), (upd (upd e0 0 (some (.cells 2 [(e_TDoc d_)]))) 1 (lstB zseen 1 (seen.map eB))), 2⟩ := by
 refine Sv.loop (I := Z79 d_ (Zi d_ K0_) o) (fun k s hI => ?_) ⟨seen, v17, zseen, hzseen, h, rfl⟩
 clear h
 clear hzseen zseen v17 seen
 obtain ⟨seen, v17, zseen, hzseen, h, rfl⟩ := hI
 cases k with
 | zero => cases h
 | succ k =>
 rw [Zi] at h
 have hself : Zb2 d_ (Zi d_ K0_ k) o (rnd 0 (Z79 d_ (Zi d_ K0_) o) k Q) := fun seen v17 zseen hzseen h s hw => ⟨_, k, hw, Nat.lt_succ_self k, seen, v17, zseen, hzseen, h, rfl⟩
 refine ssr <| un1 (v := (B (decide (v17 < (d_.Nodes.length : Int))))) rfl <| dnil <| Sv.seq ?_
 refine Sv.cnd rfl h (fun h => ?_) fun h => ?_
 ·refine Sv.skip <| Sv.seq <| Sv.block <| ssr <| un1 rfl ?_
  obtain ⟨x_, hx2, h⟩ := bnd h
  refine un1 (v := (.c (.rop (e_TNode x_)))) (s_iaddr (e := e_TNode) (xs := d_.Nodes) rfl rfl hx2) <| un1 (v := (.agg (e_TNode x_))) rfl <| un <| a2v (v := (.c (.ref 2 6 0 0))) (h' := upd _ 2 (some (.cells 6 [[cI 0, .str [], .ro true 2 [], .str [], cI 0, .ro true 1 []]]))) (n' := 3) rfl rfl hcs <| un1 rfl <| un <| a2n (h' := upd _ 2 (some (.cells 6 [(e_TNode x_)]))) (n' := 3) rfl rfl hcs <| dnil <| ssr <| un1 (v := (.c (.ref 2 6 0 5))) rfl <| un1 (v := (.c (.ro false 1 (x_.Kids.map eI)))) rfl <| un1 (v := (I (x_.Kids.length : Int))) (s_len (e := eI) (xs := x_.Kids) rfl) <| un1 rfl <| dnil <| Sv.block ?_
  obtain ⟨kk, h⟩ := lim_some h
  refine Sv.weak (wcn [0, 1] rfl (.cf rfl rfl (.cf rfl rfl (.cf rfl rfl (.cf rfl rfl (.cf rfl rfl (.cf rfl rfl (.cf rfl rfl (.cons rfl (.c (lsr rfl rfl)) (.cr rfl rfl rfl .nil))))))))) (.row (by decide) rfl (fr_map fun _ => rfl) (.box (by decide) rfl (blkAs_cells (.sm rfl (.sm rfl .nil))) .nil))) (Zb0 hzseen h ?_ hr)
  ·intro seen3 zseen3 hzseen3 h _ hw1
   refine Sv.weak hw1 <| srg <| un1 (v := (I (wi (v17 + 1)))) rfl <| un1 rfl <| dnil ?_
   exact hself seen3 (wi (v17 + 1)) zseen3 hzseen3 h _ (wcn [0, 1] rfl (.cf rfl rfl (.cf rfl rfl (.cf rfl rfl (.cons rfl (.c (lsr rfl rfl)) (.cr rfl rfl rfl .nil))))) (.row (by decide) rfl (fr_map fun _ => rfl) (.box (by decide) rfl (blkAs_cells (.sm rfl (.sm rfl .nil))) .nil)))
 ·refine Sv.exit ?_
  exact hK0 seen zseen hzseen h _ (wcn [0, 1] rfl (.cons rfl (.c (lsr rfl rfl)) (.cr rfl rfl rfl .nil)) (.row (by decide) rfl (fr_map fun _ => rfl) (.box (by decide) rfl (blkAs_cells (.sm rfl (.sm rfl .nil))) .nil)))
abbrev Zb4 (mL : Int) (Q : AExit → St → Prop) : AExit → St → Prop := AThen (Sv Tryz.prog (GG mL) 0 a38_c7 Q) Q
abbrev Zb5 (mL : Int) (Q : AExit → St → Prop) : AExit → St → Prop := ABlock 6 (Zb4 mL Q)
abbrev Z7a (d_ : TDoc) (F_ : (List Bool) → Int → Option Int) (o : Int) (R_ : St → Prop) : Prop := ∀ (seen6 : (List Bool)) (v74 : Int) (zseen6 : Bool) (_ : zseen6 = true → seen6 = []), F_ seen6 v74 = some o → ∀ s, Weak 0 s ⟨(ue [(74, (I v74)), (73, (I (d_.Nodes.length : Int))), (72, (.c (.ro false 6 (d_.Nodes.map e_TNode)))), (3, (lstV zseen6 1 1 seen6.length)), (1, (.c (.ref 0 2 0 0)))]), (upd (upd e0 0 (some (.cells 2 [(e_TDoc d_)]))) 1 (lstB zseen6 1 (seen6.map eB))), 2⟩ → R_ s
abbrev Z7b (d_ : TDoc) (F_ : Unit → Option Int) (o : Int) (R_ : St → Prop) : Prop := ∀ (_ : Unit), F_ () = some o → ∀ s, Weak 0 s ⟨(upd e0 1 (some (.c (.ref 0 2 0 0)))), (upd e0 0 (some (.cells 2 [(e_TDoc d_)]))), 1⟩ → R_ s
noncomputable def Z1f (v74 : Int) (d_ : TDoc) (self : (List Bool) → Int → Option Int) (K5_ : Unit → Option Int) (seen7 : (List Bool)) (v88 : Bool) : Option Int :=
 if v88 then
  some 3
 else
  self seen7 (wi (v74 + 1))
theorem Z7c {mL : Int} {Q : AExit → St → Prop} {v74 : Int} {d_ : TDoc} {self : (List Bool) → Int → Option Int} {K5_ : Unit → Option Int} {seen7 : (List Bool)} {v88 : Bool} {zseen7 : Bool} (hzseen7 : zseen7 = true → seen7 = []) {o : Int} (h : Z1f v74 d_ self K5_ seen7 v88 = some o)
  (hself : Z7a d_ self o (Q .normal))
  (hK5 : Z7b d_ K5_ o (Q (.exit 5)))
  (hr : ∀ s, Ends a38.results 0 (Z1r o) .ret s → Q .ret s) :
  Sv Tryz.prog (GG mL) 0 a38_c6 (Zb5 mL Q) ⟨(ue [(88, (B v88)), (74, (I v74)), (73, (I (d_.Nodes.length : Int))), (72, (.c (.ro false 6 (d_.Nodes.map e_TNode)))), (3, (lstV zseen7 1 1 seen7.length)), (1, (.c (.ref 0 2 0 0)))]), (upd (upd e0 0 (some (.cells 2 [(e_TDoc d_)]))) 1 (lstB zseen7 1 (seen7.map eB))), 2⟩ := by
 unfold Z1f at h
 refine Sv.cnd rfl h (fun h => ?_) fun h => ?_
 ·refine ssr <| un1 rfl <| dnil <| Sv.ret ?_
  exact hr _ (rt0 h rfl rfl ⟨rfl, rfl, rfl⟩)
 ·refine Sv.skip <| srg <| un1 (v := (I (wi (v74 + 1)))) rfl <| un1 rfl <| dnil ?_
  exact hself seen7 (wi (v74 + 1)) zseen7 hzseen7 h _ (wcn [0, 1] rfl (.cf rfl rfl (.cf rfl rfl (.cf rfl rfl (.cons rfl (.c (lsr rfl rfl)) (.cr rfl rfl rfl .nil))))) (.row (by decide) rfl (fr_map fun _ => rfl) (.box (by decide) rfl (blkAs_cells (.sm rfl (.sm rfl .nil))) .nil)))
abbrev Z7d (d_ : TDoc) (F_ : Nat → (List Bool) → Int → Option Int) (o : Int) : Nat → St → Prop := fun k s => ∃ (seen6 : (List Bool)), ∃ (v74 : Int), ∃ (zseen6 : Bool), (zseen6 = true → seen6 = []) ∧ F_ k seen6 v74 = some o ∧ s = ⟨(ue [(74, (I v74)), (73, (I (d_.Nodes.length : Int))), (72, (.c (.ro false 6 (d_.Nodes.map e_TNode)))), (3, (lstV zseen6 1 1 seen6.length)), (1, (.c (.ref 0 2 0 0)))]), (upd (upd e0 0 (some (.cells 2 [(e_TDoc d_)]))) 1 (lstB zseen6 1 (seen6.map eB))), 2⟩
noncomputable def Z1 (d_ : TDoc) (K5_ : Unit → Option Int) : Nat → (List Bool) → Int → Option Int
 | 0, _, _ => none
 | k + 1, seen6, v74 =>
  if decide (v74 < (d_.Nodes.length : Int)) then
   (at? d_.Nodes v74).bind fun x_6 =>
   if (!decide (x_6.Parent = (-1))) then
    (at? seen6 v74).bind fun x_7 =>
    Z1f v74 d_ (Z1 d_ K5_ k) K5_ seen6 (!x_7)
   else
    Z1f v74 d_ (Z1 d_ K5_ k) K5_ seen6 false
  else
   K5_ ()
theorem Zb6 {mL : Int} {Q : AExit → St → Prop} {d_ : TDoc} {K5_ : Unit → Option Int} {k : Nat} {seen6 : (List Bool)} {v74 : Int} {zseen6 : Bool} (hzseen6 : zseen6 = true → seen6 = []) {o : Int} (h : Z1 d_ K5_ k seen6 v74 = some o)
  (hK5 : Z7b d_ K5_ o (Q (.exit 5)))
  (hr : ∀ s, Ends a38.results 0 (Z1r o) .ret s → Q .ret s) :
  Sv Tryz.prog (GG mL) 0 (.loop a38_c8) Q ⟨(ue [(74, (I v74)), (73, (I (d_.Nodes.length : Int))), (72, (.c (.ro false 6 (d_.Nodes.map e_TNode)))), (3, (lstV zseen6 1 1 seen6.length)), (1, (.c (.ref 0 2 0 0)))]), (upd (upd e0 0 (some (.cells 2 [(e_TDoc d_)]))) 1 (lstB zseen6 1 (seen6.map eB))), 2⟩ := by
 refine Sv.loop (I := Z7d d_ (Z1 d_ K5_) o) (fun k s hI => ?_) ⟨seen6, v74, zseen6, hzseen6, h, rfl⟩
 clear h
 clear hzseen6 zseen6 v74 seen6
 obtain ⟨seen6, v74, zseen6, hzseen6, h, rfl⟩ := hI
 cases k with
 | zero => cases h
 | succ k =>
 rw [Z1] at h
 have hself : Z7a d_ (Z1 d_ K5_ k) o (rnd 0 (Z7d d_ (Z1 d_ K5_) o) k Q) := fun seen6 v74 zseen6 hzseen6 h s hw => ⟨_, k, hw, Nat.lt_succ_self k, seen6, v74, zseen6, hzseen6, h, rfl⟩
 refine ssr <| un1 (v := (B (decide (v74 < (d_.Nodes.length : Int))))) rfl <| dnil <| Sv.seq ?_
 refine Sv.cnd rfl h (fun h => ?_) fun h => ?_
 ·refine Sv.skip <| Sv.seq <| Sv.block <| ssr <| un1 rfl ?_
  obtain ⟨x_6, hx8, h⟩ := bnd h
  refine un1 (v := (.c (.rop (e_TNode x_6)))) (s_iaddr (e := e_TNode) (xs := d_.Nodes) rfl rfl hx8) <| un1 (v := (.agg (e_TNode x_6))) rfl <| un <| a2v (v := (.c (.ref 2 6 0 0))) (h' := upd _ 2 (some (.cells 6 [[cI 0, .str [], .ro true 2 [], .str [], cI 0, .ro true 1 []]]))) (n' := 3) rfl rfl hcs <| un1 rfl <| un <| a2n (h' := upd _ 2 (some (.cells 6 [(e_TNode x_6)]))) (n' := 3) rfl rfl hcs <| dnil <| ssr <| un1 (v := (.c (.ref 2 6 0 4))) rfl <| un1 (v := (I x_6.Parent)) rfl <| un1 (v := (B (!decide (x_6.Parent = (-1))))) rfl <| un1 rfl ?_
  refine spl h (fun h => ?_) fun h => ?_
  ·refine gt rfl <| a1 rfl <| gt rfl <| a1 rfl ?_
   obtain ⟨x_7, hx9, h⟩ := bnd h
   refine gt rfl <| a1 (v := (.c (.ref 1 1 v74.toNat 0))) (s_iaddrL rfl rfl hzseen6 hx9) <| gt rfl <| a1 (v := (B x_7)) (s_loadL (z := zseen6) (e := eB) rfl rfl hzseen6 hx9 rfl rfl) <| gt rfl <| a1 (v := (B (!x_7))) rfl <| un1 (v := (B (!x_7))) rfl <| dnil ?_
   exact Sv.weak (wcn [0, 1] rfl (.cf rfl rfl (.cf rfl rfl (.cf rfl rfl (.cf rfl rfl (.cons rfl (.c (lsr rfl rfl)) (.cr rfl rfl rfl .nil)))))) (.row (by decide) rfl (fr_map fun _ => rfl) (.box (by decide) rfl (blkAs_cells (.sm rfl (.sm rfl .nil))) .nil))) (Z7c hzseen6 h hself hK5 hr)
  ·repeat (first | refine gu rfl ?_ | refine gs rfl rfl ?_)
   refine un1 (v := (B false)) rfl <| dnil ?_
   exact Sv.weak (wcn [0, 1] rfl (.cf rfl rfl (.cf rfl rfl (.cf rfl rfl (.cf rfl rfl (.cons rfl (.c (lsr rfl rfl)) (.cr rfl rfl rfl .nil)))))) (.row (by decide) rfl (fr_map fun _ => rfl) (.box (by decide) rfl (blkAs_cells (.sm rfl (.sm rfl .nil))) .nil))) (Z7c hzseen6 h hself hK5 hr)
 ·refine Sv.exit ?_
  exact hK5 () h _ (wcn [0] rfl (.cr rfl rfl rfl .nil) (.box (by decide) rfl (blkAs_cells (.sm rfl (.sm rfl .nil))) .nil))
/-- clerestory/dom.kids -/
noncomputable def Z1s (d_ : TDoc) : Option Int :=
 (mkl? 1 (d_.Nodes.length : Int) (d_.Nodes.length : Int) (false : Bool)).bind fun row =>
 lim fun kk2 => Zi d_ (fun (seen1 : (List Bool)) => 
   lim fun kk1 => Z1 d_ (fun (_ : Unit) => 
     (at? d_.Nodes 0).bind fun x_8 =>
     if (!decide (x_8.Parent = (-1))) then
      some 3
     else
      some 0) kk1 seen1 0) kk2 row 0
theorem Zb7 {mL : Int} {d_ : TDoc} {r : Int} (h : Z1s d_ = some r) : CPure Tryz.prog (GG mL) 38 [(.agg (e_TDoc d_))] (I r) := by
 refine acalls_of_sv hmix c38 (R := Z1r r) ?_
 unfold Z1s at h
 refine ssr <| un <| a2v (v := (.c (.ref 0 2 0 0))) (h' := upd _ 0 (some (.cells 2 [(e_TDoc d_)]))) (n' := 1) rfl rfl hcs <| un1 rfl <| dnil <| ssr <| un1 (v := (.c (.ref 0 2 0 0))) rfl <| un1 (v := (.c (.ro false 6 (d_.Nodes.map e_TNode)))) rfl <| un1 (v := (I (d_.Nodes.length : Int))) (s_len (e := e_TNode) (xs := d_.Nodes) rfl) ?_
 obtain ⟨row, hx1, h⟩ := bnd h
 refine un <| a2mk (e := eB) rfl rfl hx1 (fun _ _ => (.sm rfl .nil)) <| un1 rfl <| dnil <| Sv.seq <| ssr <| un1 (v := (.c (.ref 0 2 0 0))) rfl <| un1 (v := (.c (.ro false 6 (d_.Nodes.map e_TNode)))) rfl <| un1 (v := (I (d_.Nodes.length : Int))) (s_len (e := e_TNode) (xs := d_.Nodes) rfl) <| un1 rfl <| dnil <| Sv.block ?_
 obtain ⟨kk2, h⟩ := lim_some h
 refine Sv.weak (wcn [0, 1] rfl (.cf rfl rfl (.cf rfl rfl (.cf rfl rfl (.cons rfl (.c (lsr rfl rfl)) (.cr rfl rfl rfl .nil))))) (.row (by decide) rfl (fr_map fun _ => rfl) (.box (by decide) rfl (blkAs_cells (.sm rfl (.sm rfl .nil))) .nil))) (Zb3 hcs h ?_ (fun s hs => hs))
 ·intro seen1 zseen1 hzseen1 h _ hw2
  refine Sv.weak hw2 <| Sv.seq <| ssr <| un1 (v := (.c (.ref 0 2 0 0))) rfl <| un1 (v := (.c (.ro false 6 (d_.Nodes.map e_TNode)))) rfl <| un1 (v := (I (d_.Nodes.length : Int))) (s_len (e := e_TNode) (xs := d_.Nodes) rfl) <| un1 rfl <| dnil <| Sv.block ?_
  obtain ⟨kk1, h⟩ := lim_some h
  refine Sv.weak (wcn [0, 1] rfl (.cf rfl rfl (.cf rfl rfl (.cf rfl rfl (.cons rfl (.c (lsr rfl rfl)) (.cr rfl rfl rfl .nil))))) (.row (by decide) rfl (fr_map fun _ => rfl) (.box (by decide) rfl (blkAs_cells (.sm rfl (.sm rfl .nil))) .nil))) (Zb6 hzseen1 h ?_ (fun s hs => hs))
  ·intro _ h _ hw3
   refine Sv.weak hw3 <| Sv.seq <| ssr <| un1 (v := (.c (.ref 0 2 0 0))) rfl <| un1 (v := (.c (.ro false 6 (d_.Nodes.map e_TNode)))) rfl ?_
   obtain ⟨x_8, hx10, h⟩ := bnd h
   refine un1 (v := (.c (.rop (e_TNode x_8)))) (s_iaddr (e := e_TNode) (xs := d_.Nodes) rfl rfl hx10) <| un1 (v := (.c (.rop [cI x_8.Parent, .ro false 1 (x_8.Kids.map eI)]))) rfl <| un1 (v := (I x_8.Parent)) rfl <| un1 (v := (B (!decide (x_8.Parent = (-1))))) rfl <| dnil ?_
   refine Sv.cnd rfl h (fun h => ?_) fun h => ?_
   ·refine ssr <| un1 rfl <| dnil <| Sv.ret ?_
    exact rt0 h rfl rfl ⟨rfl, rfl, rfl⟩
   ·refine Sv.skip <| ssr <| un1 rfl <| dnil <| Sv.ret ?_
    exact rt0 h rfl rfl ⟨rfl, rfl, rfl⟩
def a39_c0 : ACode := (.seq (sr [(oP 5 (.faddr 0 (.tmp 2))), (oP 6 (.load false 1 (.tmp 5))), (mV 7 1), (oP 8 (.iaddr 6 (.tmp 6) (.tmp 7))), (oP 9 (.faddr 4 (.tmp 8))), (oP 10 (.load false 1 (.tmp 9))), (oP 11 (.bin .geq (.tmp 10) (kI 0))), (mV 12 11), ⟨(some 13), (.mov (.tmp 4)), (some (12, true))⟩, ⟨(some 14), (.faddr 0 (.tmp 2)), (some (12, true))⟩, ⟨(some 15), (.load false 1 (.tmp 14)), (some (12, true))⟩, ⟨(some 16), (.len (.tmp 15)), (some (12, true))⟩, ⟨(some 17), (.bin .leq (.tmp 13) (.tmp 16)), (some (12, true))⟩, (oP 18 (.pick (.tmp 12) (.tmp 17) kF))]
 (.cond (.tmp 18) .skip (.exit 0)))
 (.seq (.block 1 (.region [(mV 25 4), (oP 26 (.bin .add (.tmp 25) (kI 1))), (mV 4 26)]))
 (.region [(oP 19 (.faddr 0 (.tmp 2))), (oP 20 (.load false 1 (.tmp 19))), (mV 21 1), (oP 22 (.iaddr 6 (.tmp 20) (.tmp 21))), (oP 23 (.faddr 4 (.tmp 22))), (oP 24 (.load false 1 (.tmp 23))), (mV 1 24)])))
def a39 : AFunc := ⟨2, [(.tmp 4)], (sr [(oP 2 (.box (.tmp 0))), (oP 4 (.mov (kI 0)))]
 (.seq (.block 0 (.loop a39_c0))
 (sr [(mV 27 4), (mV 4 27)]
 .ret)))⟩
theorem c39 : compFunc Tryz.prog 39 = some a39 := by kernel_rfl
def Z7e (r : Int) : AV → Heap → Nat → Prop := fun v h' n' => v = (I r) ∧ (h' = e0) ∧ n' = 0
abbrev Zb8 (F_ : Int → Option Int) (o : Int) (R_ : St → Prop) : Prop := ∀ (many1 : Int), F_ many1 = some o → ∀ s, Weak 0 s ⟨(upd e0 4 (some (I many1))), e0, 0⟩ → R_ s
abbrev Z7f (d_ : TDoc) (F_ : Nat → Int → Int → Option Int) (o : Int) : Nat → St → Prop := fun k s => ∃ (n_1 : Int), ∃ (many : Int), F_ k n_1 many = some o ∧ s = ⟨(ue [(4, (I many)), (2, (.c (.ref 0 2 0 0))), (1, (I n_1))]), (upd e0 0 (some (.cells 2 [(e_TDoc d_)]))), 1⟩
abbrev Zb9 (d_ : TDoc) (F_ : Int → Int → Option Int) (o : Int) (R_ : St → Prop) : Prop := ∀ (n_1 : Int) (many : Int), F_ n_1 many = some o → ∀ s, Weak 0 s ⟨(ue [(4, (I many)), (2, (.c (.ref 0 2 0 0))), (1, (I n_1))]), (upd e0 0 (some (.cells 2 [(e_TDoc d_)]))), 1⟩ → R_ s
noncomputable def Z5 (d_ : TDoc) (K0_ : Int → Option Int) : Nat → Int → Int → Option Int
 | 0, _, _ => none
 | k + 1, n_1, many =>
  (at? d_.Nodes n_1).bind fun x_ =>
  if ((decide (0 ≤ x_.Parent)) && (decide (many ≤ (d_.Nodes.length : Int)))) then
   (at? d_.Nodes n_1).bind fun x_1 =>
   (Z5 d_ K0_ k) x_1.Parent (wi (many + 1))
  else
   K0_ many
theorem Zba {mL : Int} {Q : AExit → St → Prop} {d_ : TDoc} {K0_ : Int → Option Int} {k : Nat} {n_1 : Int} {many : Int} {o : Int} (h : Z5 d_ K0_ k n_1 many = some o)
  (hK0 : Zb8 K0_ o (Q (.exit 0)))
  (hr : ∀ s, Ends a39.results 0 (Z7e o) .ret s → Q .ret s) :
  Sv Tryz.prog (GG mL) 0 (.loop a39_c0) Q ⟨(ue [(4, (I many)), (2, (.c (.ref 0 2 0 0))), (1, (I n_1))]), (upd e0 0 (some (.cells 2 [(e_TDoc d_)]))), 1⟩ := by
 refine Sv.loop (I := Z7f d_ (Z5 d_ K0_) o) (fun k s hI => ?_) ⟨n_1, many, h, rfl⟩
 clear h
 clear many n_1
 obtain ⟨n_1, many, h, rfl⟩ := hI
 cases k with
 | zero => cases h
 | succ k =>
 rw [Z5] at h
 have hself : Zb9 d_ (Z5 d_ K0_ k) o (rnd 0 (Z7f d_ (Z5 d_ K0_) o) k Q) := fun n_1 many h s hw => ⟨_, k, hw, Nat.lt_succ_self k, n_1, many, h, rfl⟩
 refine Sv.seq <| ssr <| un1 (v := (.c (.ref 0 2 0 0))) rfl <| un1 (v := (.c (.ro false 6 (d_.Nodes.map e_TNode)))) rfl <| un1 rfl ?_
 obtain ⟨x_, hx1, h⟩ := bnd h
 refine un1 (v := (.c (.rop (e_TNode x_)))) (s_iaddr (e := e_TNode) (xs := d_.Nodes) rfl rfl hx1) <| un1 (v := (.c (.rop [cI x_.Parent, .ro false 1 (x_.Kids.map eI)]))) rfl <| un1 (v := (I x_.Parent)) rfl <| un1 (v := (B (decide (0 ≤ x_.Parent)))) rfl <| un1 rfl ?_
 refine gjoin 6 (d := 18) (v := (B ((decide (0 ≤ x_.Parent)) && (decide (many ≤ (d_.Nodes.length : Int)))))) (fun X hX => ?_) ?_
 ·refine split2 (fun hc1 => ?_) (fun hc1 => ?_)
  ·refine gt rfl <| a1 rfl <| gt rfl <| a1 (v := (.c (.ref 0 2 0 0))) rfl <| gt rfl <| a1 (v := (.c (.ro false 6 (d_.Nodes.map e_TNode)))) rfl <| gt rfl <| a1 (v := (I (d_.Nodes.length : Int))) (s_len (e := e_TNode) (xs := d_.Nodes) rfl) <| gt rfl <| a1 (v := (B (decide (many ≤ (d_.Nodes.length : Int))))) rfl <| un1 (v := (B (decide (many ≤ (d_.Nodes.length : Int))))) rfl <| dnil ?_
   exact hX _ (.putEq (by rw [hc1]; rfl) (by repeat (first | exact .putEq (by rw [hc1]) (.refl _) | refine .skp ?_ rfl)))
  ·repeat (first | refine gu rfl ?_ | refine gs rfl rfl ?_)
   refine un1 (v := (B false)) rfl <| dnil ?_
   exact hX _ (.putEq (by rw [hc1]; rfl) (by repeat (first | exact .putEq (by rw [hc1]) (.refl _) | refine .skp ?_ rfl)))
 refine dnil ?_
 refine Sv.cnd rfl h (fun h => ?_) fun h => ?_
 ·refine Sv.skip <| Sv.seq <| Sv.block <| srg <| un1 rfl <| un1 (v := (I (wi (many + 1)))) rfl <| un1 rfl <| dnil <| srg <| un1 (v := (.c (.ref 0 2 0 0))) rfl <| un1 (v := (.c (.ro false 6 (d_.Nodes.map e_TNode)))) rfl <| un1 rfl ?_
  obtain ⟨x_1, hx2, h⟩ := bnd h
  refine un1 (v := (.c (.rop (e_TNode x_1)))) (s_iaddr (e := e_TNode) (xs := d_.Nodes) rfl rfl hx2) <| un1 (v := (.c (.rop [cI x_1.Parent, .ro false 1 (x_1.Kids.map eI)]))) rfl <| un1 (v := (I x_1.Parent)) rfl <| un1 rfl <| dnil ?_
  exact hself x_1.Parent (wi (many + 1)) h _ (wcn [0] rfl (.cf rfl rfl (.cr rfl rfl rfl (.cf rfl rfl .nil))) (.box (by decide) rfl (blkAs_cells (.sm rfl (.sm rfl .nil))) .nil))
 ·refine Sv.exit ?_
  exact hK0 many h _ (wcn [] rfl (.cf rfl rfl .nil) .nil)
/-- clerestory/dom.up -/
noncomputable def Z17 (d_ : TDoc) (n_ : Int) : Option Int :=
 lim fun kk => Z5 d_ (fun (many1 : Int) => 
   some many1) kk n_ 0
theorem Zbb {mL : Int} {d_ : TDoc} {n_ : Int} {r : Int} (h : Z17 d_ n_ = some r) : CPure Tryz.prog (GG mL) 39 [(.agg (e_TDoc d_)), (I n_)] (I r) := by
 refine acalls_of_sv hmix c39 (R := Z7e r) ?_
 unfold Z17 at h
 refine ssr <| un <| a2v (v := (.c (.ref 0 2 0 0))) (h' := upd _ 0 (some (.cells 2 [(e_TDoc d_)]))) (n' := 1) rfl rfl hcs <| un1 rfl <| dnil <| Sv.seq <| Sv.block ?_
 obtain ⟨kk, h⟩ := lim_some h
 refine Sv.weak (wcn [0] rfl (.cf rfl rfl (.cr rfl rfl rfl (.cf rfl rfl .nil))) (.box (by decide) rfl (blkAs_cells (.sm rfl (.sm rfl .nil))) .nil)) (Zba h ?_ (fun s hs => hs))
 ·intro many1 h _ hw1
  refine Sv.weak hw1 <| ssr <| un1 rfl <| un1 rfl <| dnil <| Sv.ret ?_
  exact rt0 h rfl rfl ⟨rfl, rfl, rfl⟩
def a16_c0 : ACode := (sr [(oP 23 (.bin .lss (.tmp 22) (.tmp 21)))]
 (.seq (.cond (.tmp 23) .skip (.exit 1))
 (.seq (.block 2 (sr [(mV 24 22), (oP 25 (.iaddr 6 (.tmp 20) (.tmp 22))), (oP 26 (.load true 6 (.tmp 25))), (oP 4 (.box (.const (.agg [(.val (.int .i64 0)), (.str []), (.ro true 2 []), (.str []), (.val (.int .i64 0)), (.ro true 1 [])])))), (mV 3 24), (oN (.store 6 (.tmp 4) (.tmp 26)))]
 (.seq (sr [(oP 27 (.faddr 0 (.tmp 4))), (oP 28 (.load false 1 (.tmp 27))), (oP 29 (.bin .eql (.tmp 28) (kI 1))), (mV 30 3), (oP 31 (.bin .eql (.tmp 30) (kI 0))), (oP 32 (.eqs true false [.b] (.tmp 29) (.tmp 31)))]
 (.cond (.tmp 32) (sr [(oP 2 (.mov (kI 3)))]
 .ret) .skip))
 (sr [(oP 33 (.load true 6 (.tmp 4))), (oP 34 (.call 37 [(.tmp 33)])), (mV 5 34)]
 (sr [(mV 35 5), (oP 36 (.bin .neq (.tmp 35) (kI 0)))]
 (.cond (.tmp 36) (sr [(mV 37 5), (mV 2 37)]
 .ret) .skip))))))
 (.region [(oP 38 (.bin .add (.tmp 22) (kI 1))), (mV 22 38)]))))
def a16_c1 : ACode := (sr [(oP 48 (.bin .lss (.tmp 47) (.tmp 46)))]
 (.seq (.cond (.tmp 48) .skip (.exit 3))
 (.seq (.block 4 (sr [(mV 49 47), (mV 7 49)]
 (sr [(oP 50 (.load true 2 (.tmp 1))), (mV 51 7), (oP 52 (.call 39 [(.tmp 50), (.tmp 51)])), (mV 8 52)]
 (.block 5 (sr [(mV 54 8), (oP 55 (.faddr 0 (.tmp 1))), (oP 56 (.load false 1 (.tmp 55))), (oP 57 (.len (.tmp 56))), (oP 58 (.bin .gtr (.tmp 54) (.tmp 57))), (mV 53 58)]
 (.cond (.tmp 53) (sr [(oP 2 (.mov (kI 8)))]
 .ret) (sr [(mV 60 8), (oP 61 (.bin .gtr (.tmp 60) (kI 40))), (mV 59 61)]
 (.cond (.tmp 59) (sr [(oP 2 (.mov (kI 2)))]
 .ret) .skip))))))))
 (.region [(oP 62 (.bin .add (.tmp 47) (kI 1))), (mV 47 62)]))))
def a16 : AFunc := ⟨1, [(.tmp 2)], (sr [(oP 1 (.box (.tmp 0))), (oP 2 (.mov (kI 0)))]
 (.seq (.block 0 (sr [(oP 10 (.faddr 0 (.tmp 1))), (oP 11 (.load false 1 (.tmp 10))), (oP 12 (.len (.tmp 11))), (oP 13 (.bin .gtr (.tmp 12) (kI 200))), (mV 9 13)]
 (.cond (.tmp 9) (sr [(oP 2 (.mov (kI 2)))]
 .ret) (sr [(oP 15 (.faddr 0 (.tmp 1))), (oP 16 (.load false 1 (.tmp 15))), (oP 17 (.len (.tmp 16))), (oP 18 (.bin .eql (.tmp 17) (kI 0))), (mV 14 18)]
 (.cond (.tmp 14) (sr [(oP 2 (.mov (kI 3)))]
 .ret) .skip)))))
 (.seq (sr [(oP 19 (.faddr 0 (.tmp 1))), (oP 20 (.load false 1 (.tmp 19))), (oP 21 (.len (.tmp 20))), (oP 22 (.mov (kI 0)))]
 (.block 1 (.loop a16_c0)))
 (.seq (sr [(oP 39 (.load true 2 (.tmp 1))), (oP 40 (.call 38 [(.tmp 39)])), (mV 6 40)]
 (sr [(mV 41 6), (oP 42 (.bin .neq (.tmp 41) (kI 0)))]
 (.cond (.tmp 42) (sr [(mV 43 6), (mV 2 43)]
 .ret) .skip)))
 (.seq (sr [(oP 44 (.faddr 0 (.tmp 1))), (oP 45 (.load false 1 (.tmp 44))), (oP 46 (.len (.tmp 45))), (oP 47 (.mov (kI 0)))]
 (.block 3 (.loop a16_c1)))
 (sr [(oP 2 (.mov (kI 0)))]
 .ret))))))⟩
theorem c16 : compFunc Tryz.prog 16 = some a16 := by kernel_rfl
def Z5c (r : Int) : AV → Heap → Nat → Prop := fun v h' n' => v = (I r) ∧ (h' = e0) ∧ n' = 0
abbrev Zbc (d_ : TDoc) (F_ : Unit → Option Int) (o : Int) (R_ : St → Prop) : Prop := ∀ (_ : Unit), F_ () = some o → ∀ s, Weak 0 s ⟨(upd e0 1 (some (.c (.ref 0 2 0 0)))), (upd e0 0 (some (.cells 2 [(e_TDoc d_)]))), 1⟩ → R_ s
abbrev Z7g (d_ : TDoc) (F_ : Nat → Int → Option Int) (o : Int) : Nat → St → Prop := fun k s => ∃ (v22 : Int), F_ k v22 = some o ∧ s = ⟨(ue [(22, (I v22)), (21, (I (d_.Nodes.length : Int))), (20, (.c (.ro false 6 (d_.Nodes.map e_TNode)))), (1, (.c (.ref 0 2 0 0)))]), (upd e0 0 (some (.cells 2 [(e_TDoc d_)]))), 1⟩
abbrev Zbd (d_ : TDoc) (F_ : Int → Option Int) (o : Int) (R_ : St → Prop) : Prop := ∀ (v22 : Int), F_ v22 = some o → ∀ s, Weak 0 s ⟨(ue [(22, (I v22)), (21, (I (d_.Nodes.length : Int))), (20, (.c (.ro false 6 (d_.Nodes.map e_TNode)))), (1, (.c (.ref 0 2 0 0)))]), (upd e0 0 (some (.cells 2 [(e_TDoc d_)]))), 1⟩ → R_ s
noncomputable def Zj (d_ : TDoc) (K1_ : Unit → Option Int) : Nat → Int → Option Int
 | 0, _ => none
 | k + 1, v22 =>
  if decide (v22 < (d_.Nodes.length : Int)) then
   (at? d_.Nodes v22).bind fun x_ =>
   if (!((decide (x_.Kind = 1) == decide (v22 = 0)) && true)) then
    some 3
   else
    (Zd x_).bind fun r_ =>
    if (!decide (r_ = 0)) then
     some r_
    else
     (Zj d_ K1_ k) (wi (v22 + 1))
  else
   K1_ ()
theorem Zbe {mL : Int} {Q : AExit → St → Prop} {d_ : TDoc} {K1_ : Unit → Option Int} {k : Nat} {v22 : Int} {o : Int} (h : Zj d_ K1_ k v22 = some o)
  (hK1 : Zbc d_ K1_ o (Q (.exit 1)))
  (hr : ∀ s, Ends a16.results 0 (Z5c o) .ret s → Q .ret s) :
  Sv Tryz.prog (GG mL) 0 (.loop a16_c0) Q ⟨(ue [(22, (I v22)), (21, (I (d_.Nodes.length : Int))), (20, (.c (.ro false 6 (d_.Nodes.map e_TNode)))), (1, (.c (.ref 0 2 0 0)))]), (upd e0 0 (some (.cells 2 [(e_TDoc d_)]))), 1⟩ := by
 refine Sv.loop (I := Z7g d_ (Zj d_ K1_) o) (fun k s hI => ?_) ⟨v22, h, rfl⟩
 clear h
 clear v22
 obtain ⟨v22, h, rfl⟩ := hI
 cases k with
 | zero => cases h
 | succ k =>
 rw [Zj] at h
 have hself : Zbd d_ (Zj d_ K1_ k) o (rnd 0 (Z7g d_ (Zj d_ K1_) o) k Q) := fun v22 h s hw => ⟨_, k, hw, Nat.lt_succ_self k, v22, h, rfl⟩
 refine ssr <| un1 (v := (B (decide (v22 < (d_.Nodes.length : Int))))) rfl <| dnil <| Sv.seq ?_
 refine Sv.cnd rfl h (fun h => ?_) fun h => ?_
 ·refine Sv.skip <| Sv.seq <| Sv.block <| ssr <| un1 rfl ?_
  obtain ⟨x_, hx1, h⟩ := bnd h
  refine un1 (v := (.c (.rop (e_TNode x_)))) (s_iaddr (e := e_TNode) (xs := d_.Nodes) rfl rfl hx1) <| un1 (v := (.agg (e_TNode x_))) rfl <| un <| a2v (v := (.c (.ref 1 6 0 0))) (h' := upd _ 1 (some (.cells 6 [[cI 0, .str [], .ro true 2 [], .str [], cI 0, .ro true 1 []]]))) (n' := 2) rfl rfl hcs <| un1 rfl <| un <| a2n (h' := upd _ 1 (some (.cells 6 [(e_TNode x_)]))) (n' := 2) rfl rfl hcs <| dnil <| Sv.seq <| ssr <| un1 (v := (.c (.ref 1 6 0 0))) rfl <| un1 (v := (I x_.Kind)) rfl <| un1 (v := (B (decide (x_.Kind = 1)))) rfl <| un1 rfl <| un1 (v := (B (decide (v22 = 0)))) rfl <| un1 (v := (B (!((decide (x_.Kind = 1) == decide (v22 = 0)) && true)))) rfl <| dnil ?_
  refine Sv.cnd rfl h (fun h => ?_) fun h => ?_
  ·refine ssr <| un1 rfl <| dnil <| Sv.ret ?_
   exact hr _ (rt0 h rfl rfl ⟨rfl, rfl, rfl⟩)
  ·refine Sv.skip <| ssr <| un1 (v := (.agg (e_TNode x_))) rfl ?_
   obtain ⟨r_, hr1, h⟩ := bnd h
   refine un <| ac_pure (Zax hr1) rfl rfl rfl <| un1 rfl <| dnil <| ssr <| un1 rfl <| un1 (v := (B (!decide (r_ = 0)))) rfl <| dnil ?_
   refine Sv.cnd rfl h (fun h => ?_) fun h => ?_
   ·refine ssr <| un1 rfl <| un1 rfl <| dnil <| Sv.ret ?_
    exact hr _ (rt0 h rfl rfl ⟨rfl, rfl, rfl⟩)
   ·refine Sv.skip <| srg <| un1 (v := (I (wi (v22 + 1)))) rfl <| un1 rfl <| dnil ?_
    exact hself (wi (v22 + 1)) h _ (wcn [0] rfl (.cf rfl rfl (.cf rfl rfl (.cf rfl rfl (.cr rfl rfl rfl .nil)))) (.box (by decide) rfl (blkAs_cells (.sm rfl (.sm rfl .nil))) .nil))
 ·refine Sv.exit ?_
  exact hK1 () h _ (wcn [0] rfl (.cr rfl rfl rfl .nil) (.box (by decide) rfl (blkAs_cells (.sm rfl (.sm rfl .nil))) .nil))
abbrev Zbf (F_ : Unit → Option Int) (o : Int) (R_ : St → Prop) : Prop := ∀ (_ : Unit), F_ () = some o → ∀ s, Weak 0 s ⟨e0, e0, 0⟩ → R_ s
abbrev Z7h (d_ : TDoc) (F_ : Nat → Int → Option Int) (o : Int) : Nat → St → Prop := fun k s => ∃ (v47 : Int), F_ k v47 = some o ∧ s = ⟨(ue [(47, (I v47)), (46, (I (d_.Nodes.length : Int))), (1, (.c (.ref 0 2 0 0)))]), (upd e0 0 (some (.cells 2 [(e_TDoc d_)]))), 1⟩
abbrev Zbg (d_ : TDoc) (F_ : Int → Option Int) (o : Int) (R_ : St → Prop) : Prop := ∀ (v47 : Int), F_ v47 = some o → ∀ s, Weak 0 s ⟨(ue [(47, (I v47)), (46, (I (d_.Nodes.length : Int))), (1, (.c (.ref 0 2 0 0)))]), (upd e0 0 (some (.cells 2 [(e_TDoc d_)]))), 1⟩ → R_ s
noncomputable def Za (d_ : TDoc) (K3_ : Unit → Option Int) : Nat → Int → Option Int
 | 0, _ => none
 | k + 1, v47 =>
  if decide (v47 < (d_.Nodes.length : Int)) then
   (Z17 d_ v47).bind fun r_2 =>
   if decide ((d_.Nodes.length : Int) < r_2) then
    some 8
   else
    if decide (40 < r_2) then
     some 2
    else
     (Za d_ K3_ k) (wi (v47 + 1))
  else
   K3_ ()
theorem Zbh {mL : Int} {Q : AExit → St → Prop} {d_ : TDoc} {K3_ : Unit → Option Int} {k : Nat} {v47 : Int} {o : Int} (h : Za d_ K3_ k v47 = some o)
  (hK3 : Zbf K3_ o (Q (.exit 3)))
  (hr : ∀ s, Ends a16.results 0 (Z5c o) .ret s → Q .ret s) :
  Sv Tryz.prog (GG mL) 0 (.loop a16_c1) Q ⟨(ue [(47, (I v47)), (46, (I (d_.Nodes.length : Int))), (1, (.c (.ref 0 2 0 0)))]), (upd e0 0 (some (.cells 2 [(e_TDoc d_)]))), 1⟩ := by
 refine Sv.loop (I := Z7h d_ (Za d_ K3_) o) (fun k s hI => ?_) ⟨v47, h, rfl⟩
 clear h
 clear v47
 obtain ⟨v47, h, rfl⟩ := hI
 cases k with
 | zero => cases h
 | succ k =>
 rw [Za] at h
 have hself : Zbg d_ (Za d_ K3_ k) o (rnd 0 (Z7h d_ (Za d_ K3_) o) k Q) := fun v47 h s hw => ⟨_, k, hw, Nat.lt_succ_self k, v47, h, rfl⟩
 refine ssr <| un1 (v := (B (decide (v47 < (d_.Nodes.length : Int))))) rfl <| dnil <| Sv.seq ?_
 refine Sv.cnd rfl h (fun h => ?_) fun h => ?_
 ·refine Sv.skip <| Sv.seq <| Sv.block <| ssr <| un1 rfl <| un1 rfl <| dnil <| ssr <| un1 (v := (.agg (e_TDoc d_))) rfl <| un1 rfl ?_
  obtain ⟨r_2, hr3, h⟩ := bnd h
  refine un <| ac_pure (Zbb hr3) rfl rfl rfl <| un1 rfl <| dnil <| Sv.block <| ssr <| un1 rfl <| un1 (v := (.c (.ref 0 2 0 0))) rfl <| un1 (v := (.c (.ro false 6 (d_.Nodes.map e_TNode)))) rfl <| un1 (v := (I (d_.Nodes.length : Int))) (s_len (e := e_TNode) (xs := d_.Nodes) rfl) <| un1 (v := (B (decide ((d_.Nodes.length : Int) < r_2)))) rfl <| un1 rfl <| dnil ?_
  refine Sv.cnd rfl h (fun h => ?_) fun h => ?_
  ·refine ssr <| un1 rfl <| dnil <| Sv.ret ?_
   exact hr _ (rt0 h rfl rfl ⟨rfl, rfl, rfl⟩)
  ·refine ssr <| un1 rfl <| un1 (v := (B (decide (40 < r_2)))) rfl <| un1 rfl <| dnil ?_
   refine Sv.cnd rfl h (fun h => ?_) fun h => ?_
   ·refine ssr <| un1 rfl <| dnil <| Sv.ret ?_
    exact hr _ (rt0 h rfl rfl ⟨rfl, rfl, rfl⟩)
   ·refine Sv.skip <| srg <| un1 (v := (I (wi (v47 + 1)))) rfl <| un1 rfl <| dnil ?_
    exact hself (wi (v47 + 1)) h _ (wcn [0] rfl (.cf rfl rfl (.cf rfl rfl (.cr rfl rfl rfl .nil))) (.box (by decide) rfl (blkAs_cells (.sm rfl (.sm rfl .nil))) .nil))
 ·refine Sv.exit ?_
  exact hK3 () h _ (wcn [] rfl .nil .nil)
/-- clerestory/dom.Check -/
noncomputable def Z2i (d_ : TDoc) : Option Int :=
 if decide (200 < (d_.Nodes.length : Int)) then
  some 2
 else
  if decide ((d_.Nodes.length : Int) = 0) then
   some 3
  else
   lim fun kk1 => Zj d_ (fun (_ : Unit) => 
     (Z1s d_).bind fun r_1 =>
     if (!decide (r_1 = 0)) then
      some r_1
     else
      lim fun kk => Za d_ (fun (_ : Unit) => 
        some 0) kk 0) kk1 0
theorem Z7i {mL : Int} {d_ : TDoc} {r : Int} (h : Z2i d_ = some r) : CPure Tryz.prog (GG mL) 16 [(.agg (e_TDoc d_))] (I r) := by
 refine acalls_of_sv hmix c16 (R := Z5c r) ?_
 unfold Z2i at h
 refine ssr <| un <| a2v (v := (.c (.ref 0 2 0 0))) (h' := upd _ 0 (some (.cells 2 [(e_TDoc d_)]))) (n' := 1) rfl rfl hcs <| un1 rfl <| dnil <| Sv.seq <| Sv.block <| ssr <| un1 (v := (.c (.ref 0 2 0 0))) rfl <| un1 (v := (.c (.ro false 6 (d_.Nodes.map e_TNode)))) rfl <| un1 (v := (I (d_.Nodes.length : Int))) (s_len (e := e_TNode) (xs := d_.Nodes) rfl) <| un1 (v := (B (decide (200 < (d_.Nodes.length : Int))))) rfl <| un1 rfl <| dnil ?_
 refine Sv.cnd rfl h (fun h => ?_) fun h => ?_
 ·refine ssr <| un1 rfl <| dnil <| Sv.ret ?_
  exact rt0 h rfl rfl ⟨rfl, rfl, rfl⟩
 ·refine ssr <| un1 (v := (.c (.ref 0 2 0 0))) rfl <| un1 (v := (.c (.ro false 6 (d_.Nodes.map e_TNode)))) rfl <| un1 (v := (I (d_.Nodes.length : Int))) (s_len (e := e_TNode) (xs := d_.Nodes) rfl) <| un1 (v := (B (decide ((d_.Nodes.length : Int) = 0)))) rfl <| un1 rfl <| dnil ?_
  refine Sv.cnd rfl h (fun h => ?_) fun h => ?_
  ·refine ssr <| un1 rfl <| dnil <| Sv.ret ?_
   exact rt0 h rfl rfl ⟨rfl, rfl, rfl⟩
  ·refine Sv.skip <| Sv.seq <| ssr <| un1 (v := (.c (.ref 0 2 0 0))) rfl <| un1 (v := (.c (.ro false 6 (d_.Nodes.map e_TNode)))) rfl <| un1 (v := (I (d_.Nodes.length : Int))) (s_len (e := e_TNode) (xs := d_.Nodes) rfl) <| un1 rfl <| dnil <| Sv.block ?_
   obtain ⟨kk1, h⟩ := lim_some h
   refine Sv.weak (wcn [0] rfl (.cf rfl rfl (.cf rfl rfl (.cf rfl rfl (.cr rfl rfl rfl .nil)))) (.box (by decide) rfl (blkAs_cells (.sm rfl (.sm rfl .nil))) .nil)) (Zbe h ?_ (fun s hs => hs))
   ·intro _ h _ hw1
    refine Sv.weak hw1 <| Sv.seq <| ssr <| un1 (v := (.agg (e_TDoc d_))) rfl ?_
    obtain ⟨r_1, hr2, h⟩ := bnd h
    refine un <| ac_pure (Zb7 hr2) rfl rfl rfl <| un1 rfl <| dnil <| ssr <| un1 rfl <| un1 (v := (B (!decide (r_1 = 0)))) rfl <| dnil ?_
    refine Sv.cnd rfl h (fun h => ?_) fun h => ?_
    ·refine ssr <| un1 rfl <| un1 rfl <| dnil <| Sv.ret ?_
     exact rt0 h rfl rfl ⟨rfl, rfl, rfl⟩
    ·refine Sv.skip <| Sv.seq <| ssr <| un1 (v := (.c (.ref 0 2 0 0))) rfl <| un1 (v := (.c (.ro false 6 (d_.Nodes.map e_TNode)))) rfl <| un1 (v := (I (d_.Nodes.length : Int))) (s_len (e := e_TNode) (xs := d_.Nodes) rfl) <| un1 rfl <| dnil <| Sv.block ?_
     obtain ⟨kk, h⟩ := lim_some h
     refine Sv.weak (wcn [0] rfl (.cf rfl rfl (.cf rfl rfl (.cr rfl rfl rfl .nil))) (.box (by decide) rfl (blkAs_cells (.sm rfl (.sm rfl .nil))) .nil)) (Zbh h ?_ (fun s hs => hs))
     ·intro _ h _ hw2
      refine Sv.weak hw2 <| ssr <| un1 rfl <| dnil <| Sv.ret ?_
      exact rt0 h rfl rfl ⟨rfl, rfl, rfl⟩
def a105 : AFunc := ⟨1, [(.tmp 2)], (sr [(oP 1 (.box (.tmp 0))), (oP 2 (.mov kF))]
 (sr [(oP 3 (.faddr 0 (.tmp 1))), (oP 4 (.load false 1 (.tmp 3))), (oP 5 (.bin .eql (.tmp 4) (.const (.c (.str [114, 101, 103, 105, 111, 110]))))), (mV 2 5)]
 .ret))⟩
theorem c105 : compFunc Tryz.prog 105 = some a105 := by kernel_rfl
def Zbi (r : Bool) : AV → Heap → Nat → Prop := fun v h' n' => v = (B r) ∧ (h' = e0) ∧ n' = 0
/-- clerestory/look.region$1 -/
def Z3d (a_ : TAttr) : Bool :=
 decide (a_.Name = [114, 101, 103, 105, 111, 110])
theorem Zbj {mL : Int} (a_ : TAttr) : CPure Tryz.prog (GG mL) 105 [(.agg (e_TAttr a_))] (B (Z3d a_)) := by
 generalize h : Z3d a_ = o
 refine acalls_of_sv hmix c105 (R := Zbi o) ?_
 unfold Z3d at h
 refine ssr <| un <| a2v (v := (.c (.ref 0 2 0 0))) (h' := upd _ 0 (some (.cells 2 [(e_TAttr a_)]))) (n' := 1) rfl rfl hcs <| un1 rfl <| dnil <| ssr <| un1 (v := (.c (.ref 0 2 0 0))) rfl <| un1 (v := (S a_.Name)) rfl <| un1 (v := (B (decide (a_.Name = [114, 101, 103, 105, 111, 110])))) rfl <| un1 rfl <| dnil <| Sv.ret ?_
 subst h
 exact ⟨_, .refl _, _, rfl, ⟨upd e0 0 (some (B (decide (a_.Name = [114, 101, 103, 105, 111, 110])))), e0, 0⟩, (B (decide (a_.Name = [114, 101, 103, 105, 111, 110]))), weak_canon [] rfl ndl nll nlz (.cf rfl rfl .nil) .nil, rfl, rfl, rfl, rfl⟩
def a104_slices_IndexFunc_Attr1_c0 : ACode := (sr [(oP 9 (.bin .lss (.tmp 8) (.tmp 7)))]
 (.seq (.cond (.tmp 9) .skip (.exit 0))
 (.seq (.block 1 (sr [(mV 10 8), (mV 5 10)]
 (sr [(mV 11 1), (mV 12 0), (mV 13 5), (oP 14 (.iaddr 2 (.tmp 12) (.tmp 13))), (oP 15 (.load true 2 (.tmp 14))), (oP 16 (.callv (.tmp 11) [(.tmp 15)]))]
 (.cond (.tmp 16) (sr [(mV 17 5), (mV 4 17)]
 .ret) .skip))))
 (.region [(oP 18 (.bin .add (.tmp 8) (kI 1))), (mV 8 18)]))))
def Z7j (r : Int) : AV → Heap → Nat → Prop := fun v h' n' => v = (I r) ∧ (h' = e0) ∧ n' = 0
abbrev Zbk (F_ : Unit → Option Int) (o : Int) (R_ : St → Prop) : Prop := ∀ (_ : Unit), F_ () = some o → ∀ s, Weak 0 s ⟨e0, e0, 0⟩ → R_ s
abbrev Z7k (s_ : (List TAttr)) (F_ : Nat → Int → Option Int) (o : Int) : Nat → St → Prop := fun k s => ∃ (v8 : Int), F_ k v8 = some o ∧ s = ⟨(ue [(8, (I v8)), (7, (I (s_.length : Int))), (1, (.c (.fn (.func 105) [] []))), (0, (.c (.ro false 2 (s_.map e_TAttr))))]), e0, 0⟩
abbrev Zbl (s_ : (List TAttr)) (F_ : Int → Option Int) (o : Int) (R_ : St → Prop) : Prop := ∀ (v8 : Int), F_ v8 = some o → ∀ s, Weak 0 s ⟨(ue [(8, (I v8)), (7, (I (s_.length : Int))), (1, (.c (.fn (.func 105) [] []))), (0, (.c (.ro false 2 (s_.map e_TAttr))))]), e0, 0⟩ → R_ s
noncomputable def Zx (s_ : (List TAttr)) (K0_ : Unit → Option Int) : Nat → Int → Option Int
 | 0, _ => none
 | k + 1, v8 =>
  if decide (v8 < (s_.length : Int)) then
   (at? s_ v8).bind fun x_ =>
   if (Z3d x_) then
    some v8
   else
    (Zx s_ K0_ k) (wi (v8 + 1))
  else
   K0_ ()
theorem Zbm {mL : Int} {Q : AExit → St → Prop} {s_ : (List TAttr)} {K0_ : Unit → Option Int} {k : Nat} {v8 : Int} {o : Int} (h : Zx s_ K0_ k v8 = some o)
  (hK0 : Zbk K0_ o (Q (.exit 0)))
  (hr : ∀ s, Ends a104.results 0 (Z7j o) .ret s → Q .ret s) :
  Sv Tryz.prog (GG mL) 0 (.loop a104_slices_IndexFunc_Attr1_c0) Q ⟨(ue [(8, (I v8)), (7, (I (s_.length : Int))), (1, (.c (.fn (.func 105) [] []))), (0, (.c (.ro false 2 (s_.map e_TAttr))))]), e0, 0⟩ := by
 refine Sv.loop (I := Z7k s_ (Zx s_ K0_) o) (fun k s hI => ?_) ⟨v8, h, rfl⟩
 clear h
 clear v8
 obtain ⟨v8, h, rfl⟩ := hI
 cases k with
 | zero => cases h
 | succ k =>
 rw [Zx] at h
 have hself : Zbl s_ (Zx s_ K0_ k) o (rnd 0 (Z7k s_ (Zx s_ K0_) o) k Q) := fun v8 h s hw => ⟨_, k, hw, Nat.lt_succ_self k, v8, h, rfl⟩
 refine ssr <| un1 (v := (B (decide (v8 < (s_.length : Int))))) rfl <| dnil <| Sv.seq ?_
 refine Sv.cnd rfl h (fun h => ?_) fun h => ?_
 ·refine Sv.skip <| Sv.seq <| Sv.block <| ssr <| un1 rfl <| un1 rfl <| dnil <| ssr <| un1 rfl <| un1 rfl <| un1 rfl ?_
  obtain ⟨x_, hx1, h⟩ := bnd h
  refine un1 (v := (.c (.rop (e_TAttr x_)))) (s_iaddr (e := e_TAttr) (xs := s_) rfl rfl hx1) <| un1 (v := (.agg (e_TAttr x_))) rfl <| un <| acv_gen (bs := []) («as» := [(.agg (e_TAttr x_))]) (h2 := _) (h1 := e0) rfl (by kernel_rfl) (Zbj (mL := mL) x_) rfl (.cons (avAs_free rfl) .nil) (hsub_refl _) (.nil _) (fun _ => rfl) (by decide) (by decide) (.cons (avAs_free rfl) .nil) .nil ?_
  rintro _ _ _ hn ⟨rfl, rfl, rfl⟩
  refine ⟨.inl rfl, (rem [] _), fun hbd => (m3_rem (in_nil _) (.nil) hbd), (B (Z3d x_)), 0, rfl, rfl, ?_⟩
  refine dnil ?_
  refine Sv.cnd rfl h (fun h => ?_) fun h => ?_
  ·refine ssr <| un1 rfl <| un1 rfl <| dnil <| Sv.ret ?_
   exact hr _ (rt0 h rfl rfl ⟨rfl, rfl, rfl⟩)
  ·refine Sv.skip <| srg <| un1 (v := (I (wi (v8 + 1)))) rfl <| un1 rfl <| dnil ?_
   exact hself (wi (v8 + 1)) h _ (wcn [] rfl (.cf rfl rfl (.cf rfl rfl (.cf rfl rfl (.cf rfl rfl .nil)))) .nil)
 ·refine Sv.exit ?_
  exact hK0 () h _ (wcn [] rfl .nil .nil)
/-- slices.IndexFunc(()clerestory/api.Attr,clerestory/api.Attr) -/
noncomputable def Z4c (s_ : (List TAttr)) : Option Int :=
 lim fun kk => Zx s_ (fun (_ : Unit) => 
   some (-1)) kk 0
theorem Zbn {mL : Int} {s_ : (List TAttr)} {r : Int} (h : Z4c s_ = some r) : CPure Tryz.prog (GG mL) 104 [(.c (.ro false 2 (s_.map e_TAttr))), (.c (.fn (.func 105) [] []))] (I r) := by
 refine acalls_of_sv hmix c104 (R := Z7j r) ?_
 unfold Z4c at h
 refine ssr <| un1 rfl <| dnil <| Sv.seq <| ssr <| un1 rfl <| un1 (v := (I (s_.length : Int))) (s_len (e := e_TAttr) (xs := s_) rfl) <| un1 rfl <| dnil <| Sv.block ?_
 obtain ⟨kk, h⟩ := lim_some h
 refine Sv.weak (wcn [] rfl (.cf rfl rfl (.cf rfl rfl (.cf rfl rfl (.cf rfl rfl .nil)))) .nil) (Zbm h ?_ (fun s hs => hs))
 ·intro _ h _ hw1
  refine Sv.weak hw1 <| ssr <| un1 rfl <| dnil <| Sv.ret ?_
  exact rt0 h rfl rfl ⟨rfl, rfl, rfl⟩
def a68_c0 : ACode := (.cond (.tmp 23) (sr [(oP 2 (.mov (.const (.c (.str [])))))]
 .ret) .skip)
def a68_c1 : ACode := (sr [(oP 24 (.faddr 2 (.tmp 1))), (oP 25 (.load false 1 (.tmp 24))), (mV 26 3), (oP 27 (.iaddr 2 (.tmp 25) (.tmp 26))), (oP 28 (.faddr 1 (.tmp 27))), (oP 29 (.load false 1 (.tmp 28))), (mV 2 29)]
 .ret)
def a68 : AFunc := ⟨1, [(.tmp 2)], (sr [(oP 1 (.box (.tmp 0))), (oP 2 (.mov (.const (.c (.str [])))))]
 (sr [(oP 4 (.faddr 2 (.tmp 1))), (oP 5 (.load false 1 (.tmp 4))), (oP 6 (.call 104 [(.tmp 5), (.const (.c (.fn (.func 105) [] [])))])), (mV 3 6)]
 (.seq (sr [(oP 7 (.faddr 0 (.tmp 1))), (oP 8 (.load false 1 (.tmp 7))), (oP 9 (.bin .neq (.tmp 8) (kI 2))), (mV 10 9), ⟨(some 11), (.mov (.tmp 3)), (some (10, false))⟩, ⟨(some 12), (.bin .lss (.tmp 11) (kI 0)), (some (10, false))⟩, (oP 13 (.pick (.tmp 10) kT (.tmp 12))), (mV 14 13), ⟨(some 15), (.faddr 2 (.tmp 1)), (some (14, false))⟩, ⟨(some 16), (.load false 1 (.tmp 15)), (some (14, false))⟩, ⟨(some 17), (.mov (.tmp 3)), (some (14, false))⟩, ⟨(some 18), (.iaddr 2 (.tmp 16) (.tmp 17)), (some (14, false))⟩, ⟨(some 19), (.faddr 1 (.tmp 18)), (some (14, false))⟩, ⟨(some 20), (.load false 1 (.tmp 19)), (some (14, false))⟩, ⟨(some 21), (.call 32 [(.tmp 20)]), (some (14, false))⟩, ⟨(some 22), (.un .not (.tmp 21)), (some (14, false))⟩, (oP 23 (.pick (.tmp 14) kT (.tmp 22)))]
 a68_c0)
 a68_c1)))⟩
theorem c68 : compFunc Tryz.prog 68 = some a68 := by kernel_rfl
def Z5d (r : Tx) : AV → Heap → Nat → Prop := fun v h' n' => v = (S r) ∧ (h' = e0) ∧ n' = 0
abbrev Zbo (mL : Int) (o : Tx) : AExit → St → Prop := AThen (Sv Tryz.prog (GG mL) 0 a68_c1 (Ends a68.results 0 (Z5d o))) (Ends a68.results 0 (Z5d o))
noncomputable def Z3e (x_ : TNode) (r_ : Int) (v23 : Bool) : Option Tx :=
 if v23 then
  some []
 else
  (at? x_.Attrs r_).bind fun x_1 =>
  some x_1.Value
theorem Z7l {mL : Int} {x_ : TNode} {r_ : Int} {v23 : Bool} {o : Tx} (h : Z3e x_ r_ v23 = some o) :
  Sv Tryz.prog (GG mL) 0 a68_c0 (Zbo mL o) ⟨(ue [(23, (B v23)), (3, (I r_)), (1, (.c (.ref 0 6 0 0)))]), (upd e0 0 (some (.cells 6 [(e_TNode x_)]))), 1⟩ := by
 unfold Z3e at h
 refine Sv.cnd rfl h (fun h => ?_) fun h => ?_
 ·refine ssr <| un1 rfl <| dnil <| Sv.ret ?_
  exact rt0 h rfl rfl ⟨rfl, rfl, rfl⟩
 ·refine Sv.skip <| ssr <| un1 (v := (.c (.ref 0 6 0 2))) rfl <| un1 (v := (.c (.ro false 2 (x_.Attrs.map e_TAttr)))) rfl <| un1 rfl ?_
  obtain ⟨x_1, hx1, h⟩ := bnd h
  refine un1 (v := (.c (.rop (e_TAttr x_1)))) (s_iaddr (e := e_TAttr) (xs := x_.Attrs) rfl rfl hx1) <| un1 (v := (.c (.rop [.str x_1.Value]))) rfl <| un1 (v := (S x_1.Value)) rfl <| un1 rfl <| dnil <| Sv.ret ?_
  exact rt0 h rfl rfl ⟨rfl, rfl, rfl⟩
/-- clerestory/look.region -/
noncomputable def Z3f (x_ : TNode) : Option Tx :=
 (Z4c x_.Attrs).bind fun r_ =>
 if ((!decide (x_.Kind = 2)) || (decide (r_ < 0))) then
  Z3e x_ r_ true
 else
  (at? x_.Attrs r_).bind fun x_2 =>
  (Z2d x_2.Value).bind fun r_1 =>
  Z3e x_ r_ (!r_1)
theorem Zbp {mL : Int} {x_ : TNode} {r : Tx} (h : Z3f x_ = some r) : CPure Tryz.prog (GG mL) 68 [(.agg (e_TNode x_))] (S r) := by
 refine acalls_of_sv hmix c68 (R := Z5d r) ?_
 unfold Z3f at h
 refine ssr <| un <| a2v (v := (.c (.ref 0 6 0 0))) (h' := upd _ 0 (some (.cells 6 [(e_TNode x_)]))) (n' := 1) rfl rfl hcs <| un1 rfl <| dnil <| ssr <| un1 (v := (.c (.ref 0 6 0 2))) rfl <| un1 (v := (.c (.ro false 2 (x_.Attrs.map e_TAttr)))) rfl ?_
 obtain ⟨r_, hr1, h⟩ := bnd h
 refine un <| ac_pure (Zbn hr1) rfl rfl rfl <| un1 rfl <| dnil <| Sv.seq <| ssr <| un1 (v := (.c (.ref 0 6 0 0))) rfl <| un1 (v := (I x_.Kind)) rfl <| un1 (v := (B (!decide (x_.Kind = 2)))) rfl <| un1 rfl ?_
 refine gjoin 3 (d := 13) (v := (B ((!decide (x_.Kind = 2)) || (decide (r_ < 0))))) (fun X hX => ?_) ?_
 ·refine split2 (fun hc2 => ?_) (fun hc2 => ?_)
  ·refine gs rfl rfl <| gs rfl rfl <| un1 (v := (B true)) rfl <| dnil ?_
   exact hX _ (.putEq (by rw [hc2]; rfl) (.skp (.skp (.putEq (by rw [hc2]) (.refl _)) rfl) rfl))
  ·refine gt rfl <| a1 rfl <| gt rfl <| a1 (v := (B (decide (r_ < 0)))) rfl <| un1 (v := (B (decide (r_ < 0)))) rfl <| dnil ?_
   exact hX _ (.putEq (by rw [hc2]; rfl) (.skp (.skp (.putEq (by rw [hc2]) (.refl _)) rfl) rfl))
 refine un1 rfl ?_
 refine spl h (fun h => ?_) fun h => ?_
 ·repeat (first | refine gu rfl ?_ | refine gs rfl rfl ?_)
  refine un1 (v := (B true)) rfl <| dnil ?_
  exact Sv.weak (wcn [0] rfl (.cf rfl rfl (.cf rfl rfl (.cr rfl rfl rfl .nil))) (.box (by decide) rfl (blkAs_cells (.sm rfl (.sm rfl (.sm rfl (.sm rfl (.sm rfl (.sm rfl .nil))))))) .nil)) (Z7l h)
 ·refine gt rfl <| a1 (v := (.c (.ref 0 6 0 2))) rfl <| gt rfl <| a1 (v := (.c (.ro false 2 (x_.Attrs.map e_TAttr)))) rfl <| gt rfl <| a1 rfl ?_
  obtain ⟨x_2, hx2, h⟩ := bnd h
  refine gt rfl <| a1 (v := (.c (.rop (e_TAttr x_2)))) (s_iaddr (e := e_TAttr) (xs := x_.Attrs) rfl rfl hx2) <| gt rfl <| a1 (v := (.c (.rop [.str x_2.Value]))) rfl <| gt rfl <| a1 (v := (S x_2.Value)) rfl ?_
  obtain ⟨r_1, hr2, h⟩ := bnd h
  refine gt rfl <| ac_pure (Z6v hr2) rfl rfl rfl <| gt rfl <| a1 (v := (B (!r_1))) rfl <| un1 (v := (B (!r_1))) rfl <| dnil ?_
  exact Sv.weak (wcn [0] rfl (.cf rfl rfl (.cf rfl rfl (.cr rfl rfl rfl .nil))) (.box (by decide) rfl (blkAs_cells (.sm rfl (.sm rfl (.sm rfl (.sm rfl (.sm rfl (.sm rfl .nil))))))) .nil)) (Z7l h)
def a36_c0 : ACode := (.seq (sr [(mV 6 1), (oP 7 (.bin .geq (.tmp 6) (kI 0)))]
 (.cond (.tmp 7) .skip (.exit 0)))
 (.seq (.block 1 (sr [(oP 14 (.faddr 0 (.tmp 2))), (oP 15 (.load false 1 (.tmp 14))), (mV 16 1), (oP 17 (.iaddr 6 (.tmp 15) (.tmp 16))), (oP 18 (.load true 6 (.tmp 17))), (oP 19 (.call 68 [(.tmp 18)])), (mV 5 19)]
 (sr [(mV 20 5), (oP 21 (.bin .neq (.tmp 20) (.const (.c (.str [])))))]
 (.cond (.tmp 21) (sr [(mV 22 5), (mV 4 22)]
 .ret) .skip))))
 (.region [(oP 8 (.faddr 0 (.tmp 2))), (oP 9 (.load false 1 (.tmp 8))), (mV 10 1), (oP 11 (.iaddr 6 (.tmp 9) (.tmp 10))), (oP 12 (.faddr 4 (.tmp 11))), (oP 13 (.load false 1 (.tmp 12))), (mV 1 13)])))
def a36 : AFunc := ⟨2, [(.tmp 4)], (sr [(oP 2 (.box (.tmp 0))), (oP 4 (.mov (.const (.c (.str [])))))]
 (.seq (.block 0 (.loop a36_c0))
 (sr [(oP 4 (.mov (.const (.c (.str [])))))]
 .ret)))⟩
theorem c36 : compFunc Tryz.prog 36 = some a36 := by kernel_rfl
def Z7m (r : Tx) : AV → Heap → Nat → Prop := fun v h' n' => v = (S r) ∧ (h' = e0) ∧ n' = 0
abbrev Zbq (F_ : Unit → Option Tx) (o : Tx) (R_ : St → Prop) : Prop := ∀ (_ : Unit), F_ () = some o → ∀ s, Weak 0 s ⟨e0, e0, 0⟩ → R_ s
abbrev Z7n (d_ : TDoc) (F_ : Nat → Int → Option Tx) (o : Tx) : Nat → St → Prop := fun k s => ∃ (n_1 : Int), F_ k n_1 = some o ∧ s = ⟨(ue [(2, (.c (.ref 0 2 0 0))), (1, (I n_1))]), (upd e0 0 (some (.cells 2 [(e_TDoc d_)]))), 1⟩
abbrev Zbr (d_ : TDoc) (F_ : Int → Option Tx) (o : Tx) (R_ : St → Prop) : Prop := ∀ (n_1 : Int), F_ n_1 = some o → ∀ s, Weak 0 s ⟨(ue [(2, (.c (.ref 0 2 0 0))), (1, (I n_1))]), (upd e0 0 (some (.cells 2 [(e_TDoc d_)]))), 1⟩ → R_ s
noncomputable def Zk (d_ : TDoc) (K0_ : Unit → Option Tx) : Nat → Int → Option Tx
 | 0, _ => none
 | k + 1, n_1 =>
  if decide (0 ≤ n_1) then
   (at? d_.Nodes n_1).bind fun x_ =>
   (Z3f x_).bind fun r_ =>
   if (!decide (r_ = [])) then
    some r_
   else
    (at? d_.Nodes n_1).bind fun x_1 =>
    (Zk d_ K0_ k) x_1.Parent
  else
   K0_ ()
theorem Zbs {mL : Int} {Q : AExit → St → Prop} {d_ : TDoc} {K0_ : Unit → Option Tx} {k : Nat} {n_1 : Int} {o : Tx} (h : Zk d_ K0_ k n_1 = some o)
  (hK0 : Zbq K0_ o (Q (.exit 0)))
  (hr : ∀ s, Ends a36.results 0 (Z7m o) .ret s → Q .ret s) :
  Sv Tryz.prog (GG mL) 0 (.loop a36_c0) Q ⟨(ue [(2, (.c (.ref 0 2 0 0))), (1, (I n_1))]), (upd e0 0 (some (.cells 2 [(e_TDoc d_)]))), 1⟩ := by
 refine Sv.loop (I := Z7n d_ (Zk d_ K0_) o) (fun k s hI => ?_) ⟨n_1, h, rfl⟩
 clear h
 clear n_1
 obtain ⟨n_1, h, rfl⟩ := hI
 cases k with
 | zero => cases h
 | succ k =>
 rw [Zk] at h
 have hself : Zbr d_ (Zk d_ K0_ k) o (rnd 0 (Z7n d_ (Zk d_ K0_) o) k Q) := fun n_1 h s hw => ⟨_, k, hw, Nat.lt_succ_self k, n_1, h, rfl⟩
 refine Sv.seq <| ssr <| un1 rfl <| un1 (v := (B (decide (0 ≤ n_1)))) rfl <| dnil ?_
 refine Sv.cnd rfl h (fun h => ?_) fun h => ?_
 ·refine Sv.skip <| Sv.seq <| Sv.block <| ssr <| un1 (v := (.c (.ref 0 2 0 0))) rfl <| un1 (v := (.c (.ro false 6 (d_.Nodes.map e_TNode)))) rfl <| un1 rfl ?_
  obtain ⟨x_, hx1, h⟩ := bnd h
  refine un1 (v := (.c (.rop (e_TNode x_)))) (s_iaddr (e := e_TNode) (xs := d_.Nodes) rfl rfl hx1) <| un1 (v := (.agg (e_TNode x_))) rfl ?_
  obtain ⟨r_, hr1, h⟩ := bnd h
  refine un <| ac_pure (Zbp hr1) rfl rfl rfl <| un1 rfl <| dnil <| ssr <| un1 rfl <| un1 (v := (B (!decide (r_ = [])))) rfl <| dnil ?_
  refine Sv.cnd rfl h (fun h => ?_) fun h => ?_
  ·refine ssr <| un1 rfl <| un1 rfl <| dnil <| Sv.ret ?_
   exact hr _ (rt0 h rfl rfl ⟨rfl, rfl, rfl⟩)
  ·refine Sv.skip <| srg <| un1 (v := (.c (.ref 0 2 0 0))) rfl <| un1 (v := (.c (.ro false 6 (d_.Nodes.map e_TNode)))) rfl <| un1 rfl ?_
   obtain ⟨x_1, hx2, h⟩ := bnd h
   refine un1 (v := (.c (.rop (e_TNode x_1)))) (s_iaddr (e := e_TNode) (xs := d_.Nodes) rfl rfl hx2) <| un1 (v := (.c (.rop [cI x_1.Parent, .ro false 1 (x_1.Kids.map eI)]))) rfl <| un1 (v := (I x_1.Parent)) rfl <| un1 rfl <| dnil ?_
   exact hself x_1.Parent h _ (wcn [0] rfl (.cr rfl rfl rfl (.cf rfl rfl .nil)) (.box (by decide) rfl (blkAs_cells (.sm rfl (.sm rfl .nil))) .nil))
 ·refine Sv.exit ?_
  exact hK0 () h _ (wcn [] rfl .nil .nil)
/-- clerestory/look.owner -/
noncomputable def Z2j (d_ : TDoc) (n_ : Int) : Option Tx :=
 lim fun kk => Zk d_ (fun (_ : Unit) => 
   some []) kk n_
theorem Zbt {mL : Int} {d_ : TDoc} {n_ : Int} {r : Tx} (h : Z2j d_ n_ = some r) : CPure Tryz.prog (GG mL) 36 [(.agg (e_TDoc d_)), (I n_)] (S r) := by
 refine acalls_of_sv hmix c36 (R := Z7m r) ?_
 unfold Z2j at h
 refine ssr <| un <| a2v (v := (.c (.ref 0 2 0 0))) (h' := upd _ 0 (some (.cells 2 [(e_TDoc d_)]))) (n' := 1) rfl rfl hcs <| un1 rfl <| dnil <| Sv.seq <| Sv.block ?_
 obtain ⟨kk, h⟩ := lim_some h
 refine Sv.weak (wcn [0] rfl (.cr rfl rfl rfl (.cf rfl rfl .nil)) (.box (by decide) rfl (blkAs_cells (.sm rfl (.sm rfl .nil))) .nil)) (Zbs h ?_ (fun s hs => hs))
 ·intro _ h _ hw1
  refine Sv.weak hw1 <| ssr <| un1 rfl <| dnil <| Sv.ret ?_
  exact rt0 h rfl rfl ⟨rfl, rfl, rfl⟩
def a15_c0 : ACode := (.region [(oP 34 (.bin .add (.tmp 20) (kI 1))), (mV 20 34)])
def a15_c1 : ACode := (sr [(oP 21 (.bin .lss (.tmp 20) (.tmp 19)))]
 (.seq (.cond (.tmp 21) .skip (.exit 0))
 (.seq (.block 1 (sr [(mV 22 20), (oP 23 (.iaddr 6 (.tmp 18) (.tmp 20))), (oP 24 (.load true 6 (.tmp 23))), (oP 7 (.box (.const (.agg [(.val (.int .i64 0)), (.str []), (.ro true 2 []), (.str []), (.val (.int .i64 0)), (.ro true 1 [])])))), (mV 6 22), (oN (.store 6 (.tmp 7) (.tmp 24)))]
 (sr [(oP 25 (.faddr 0 (.tmp 7))), (oP 26 (.load false 1 (.tmp 25))), (oP 27 (.bin .eql (.tmp 26) (kI 2)))]
 (.cond (.tmp 27) (.region [(mV 28 5), (mV 29 6), (oP 30 (.load true 2 (.tmp 1))), (mV 31 6), (oP 32 (.call 36 [(.tmp 30), (.tmp 31)])), (oP 33 (.iaddr 1 (.tmp 28) (.tmp 29))), (oN (.store 1 (.tmp 33) (.tmp 32)))]) .skip))))
 a15_c0)))
def a15 : AFunc := ⟨1, [(.tmp 2), (.tmp 3)], (sr [(oP 1 (.box (.tmp 0))), (oP 2 (.mov (.const (.c (.ro true 1 []))))), (oP 3 (.mov (kI 0)))]
 (.seq (sr [(oP 8 (.load true 2 (.tmp 1))), (oP 9 (.call 16 [(.tmp 8)])), (mV 4 9)]
 (sr [(mV 10 4), (oP 11 (.bin .neq (.tmp 10) (kI 0)))]
 (.cond (.tmp 11) (sr [(mV 12 4), (oP 2 (.mov (.const (.c (.ro true 1 []))))), (mV 3 12)]
 .ret) .skip)))
 (sr [(oP 13 (.faddr 0 (.tmp 1))), (oP 14 (.load false 1 (.tmp 13))), (oP 15 (.len (.tmp 14))), (oP 16 (.mksl 1 16 [(.str [])] (.tmp 15) (.tmp 15))), (mV 5 16)]
 (.seq (sr [(oP 17 (.faddr 0 (.tmp 1))), (oP 18 (.load false 1 (.tmp 17))), (oP 19 (.len (.tmp 18))), (oP 20 (.mov (kI 0)))]
 (.block 0 (.loop a15_c1)))
 (sr [(mV 35 5), (mV 2 35), (oP 3 (.mov (kI 0)))]
 .ret)))))⟩
theorem c15 : compFunc Tryz.prog 15 = some a15 := by kernel_rfl
def Z4d (r : (TT × Int)) : AV → Heap → Nat → Prop := fun v h' n' => ∃ z0 : Bool, (z0 = true → r.1 = []) ∧ v = (.tup [(lstV z0 0 1 r.1.length), (I r.2)]) ∧ (h' = (upd e0 0 (lstB z0 1 (r.1.map eStr)))) ∧ n' = 1
abbrev Z7o (d_ : TDoc) (F_ : TT → Int → Option (TT × Int)) (o : (TT × Int)) (R_ : St → Prop) : Prop := ∀ (out : TT) (v20 : Int) (zout : Bool) (_ : zout = true → out = []), F_ out v20 = some o → ∀ s, Weak 0 s ⟨(ue [(20, (I v20)), (19, (I (d_.Nodes.length : Int))), (18, (.c (.ro false 6 (d_.Nodes.map e_TNode)))), (5, (lstV zout 1 1 out.length)), (1, (.c (.ref 0 2 0 0)))]), (upd (upd e0 0 (some (.cells 2 [(e_TDoc d_)]))) 1 (lstB zout 1 (out.map eStr))), 2⟩ → R_ s
abbrev Z7p (F_ : TT → Option (TT × Int)) (o : (TT × Int)) (R_ : St → Prop) : Prop := ∀ (out1 : TT) (zout1 : Bool) (_ : zout1 = true → out1 = []), F_ out1 = some o → ∀ s, Weak 0 s ⟨(upd e0 5 (some (lstV zout1 0 1 out1.length))), (upd e0 0 (lstB zout1 1 (out1.map eStr))), 1⟩ → R_ s
noncomputable def Z2k (v20 : Int) (d_ : TDoc) (self : TT → Int → Option (TT × Int)) (K0_ : TT → Option (TT × Int)) (out2 : TT) : Option (TT × Int) :=
 self out2 (wi (v20 + 1))
theorem Z7q {mL : Int} {Q : AExit → St → Prop} {v20 : Int} {d_ : TDoc} {self : TT → Int → Option (TT × Int)} {K0_ : TT → Option (TT × Int)} {out2 : TT} {zout2 : Bool} (hzout2 : zout2 = true → out2 = []) {o : (TT × Int)} (h : Z2k v20 d_ self K0_ out2 = some o)
  (hself : Z7o d_ self o (Q .normal))
  (hK0 : Z7p K0_ o (Q (.exit 0)))
  (hr : ∀ s, Ends a15.results 0 (Z4d o) .ret s → Q .ret s) :
  Sv Tryz.prog (GG mL) 0 a15_c0 Q ⟨(ue [(20, (I v20)), (19, (I (d_.Nodes.length : Int))), (18, (.c (.ro false 6 (d_.Nodes.map e_TNode)))), (5, (lstV zout2 1 1 out2.length)), (1, (.c (.ref 0 2 0 0)))]), (upd (upd e0 0 (some (.cells 2 [(e_TDoc d_)]))) 1 (lstB zout2 1 (out2.map eStr))), 2⟩ := by
 unfold Z2k at h
 refine srg <| un1 (v := (I (wi (v20 + 1)))) rfl <| un1 rfl <| dnil ?_
 exact hself out2 (wi (v20 + 1)) zout2 hzout2 h _ (wcn [0, 1] rfl (.cf rfl rfl (.cf rfl rfl (.cf rfl rfl (.cons rfl (.c (lsr rfl rfl)) (.cr rfl rfl rfl .nil))))) (.row (by decide) rfl (fr_map fun _ => rfl) (.box (by decide) rfl (blkAs_cells (.sm rfl (.sm rfl .nil))) .nil)))
abbrev Z7r (d_ : TDoc) (F_ : Nat → TT → Int → Option (TT × Int)) (o : (TT × Int)) : Nat → St → Prop := fun k s => ∃ (out : TT), ∃ (v20 : Int), ∃ (zout : Bool), (zout = true → out = []) ∧ F_ k out v20 = some o ∧ s = ⟨(ue [(20, (I v20)), (19, (I (d_.Nodes.length : Int))), (18, (.c (.ro false 6 (d_.Nodes.map e_TNode)))), (5, (lstV zout 1 1 out.length)), (1, (.c (.ref 0 2 0 0)))]), (upd (upd e0 0 (some (.cells 2 [(e_TDoc d_)]))) 1 (lstB zout 1 (out.map eStr))), 2⟩
noncomputable def Zb (d_ : TDoc) (K0_ : TT → Option (TT × Int)) : Nat → TT → Int → Option (TT × Int)
 | 0, _, _ => none
 | k + 1, out, v20 =>
  if decide (v20 < (d_.Nodes.length : Int)) then
   (at? d_.Nodes v20).bind fun x_ =>
   if decide (x_.Kind = 2) then
    (Z2j d_ v20).bind fun r_1 =>
    (at? out v20).bind fun x_1 =>
    Z2k v20 d_ (Zb d_ K0_ k) K0_ (out.set v20.toNat r_1)
   else
    Z2k v20 d_ (Zb d_ K0_ k) K0_ out
  else
   K0_ out
theorem Zbu {mL : Int} {Q : AExit → St → Prop} {d_ : TDoc} {K0_ : TT → Option (TT × Int)} {k : Nat} {out : TT} {v20 : Int} {zout : Bool} (hzout : zout = true → out = []) {o : (TT × Int)} (h : Zb d_ K0_ k out v20 = some o)
  (hK0 : Z7p K0_ o (Q (.exit 0)))
  (hr : ∀ s, Ends a15.results 0 (Z4d o) .ret s → Q .ret s) :
  Sv Tryz.prog (GG mL) 0 (.loop a15_c1) Q ⟨(ue [(20, (I v20)), (19, (I (d_.Nodes.length : Int))), (18, (.c (.ro false 6 (d_.Nodes.map e_TNode)))), (5, (lstV zout 1 1 out.length)), (1, (.c (.ref 0 2 0 0)))]), (upd (upd e0 0 (some (.cells 2 [(e_TDoc d_)]))) 1 (lstB zout 1 (out.map eStr))), 2⟩ := by
 refine Sv.loop (I := Z7r d_ (Zb d_ K0_) o) (fun k s hI => ?_) ⟨out, v20, zout, hzout, h, rfl⟩
 clear h
 clear hzout zout v20 out
 obtain ⟨out, v20, zout, hzout, h, rfl⟩ := hI
 cases k with
 | zero => cases h
 | succ k =>
 rw [Zb] at h
 have hself : Z7o d_ (Zb d_ K0_ k) o (rnd 0 (Z7r d_ (Zb d_ K0_) o) k Q) := fun out v20 zout hzout h s hw => ⟨_, k, hw, Nat.lt_succ_self k, out, v20, zout, hzout, h, rfl⟩
 refine ssr <| un1 (v := (B (decide (v20 < (d_.Nodes.length : Int))))) rfl <| dnil <| Sv.seq ?_
 refine Sv.cnd rfl h (fun h => ?_) fun h => ?_
 ·refine Sv.skip <| Sv.seq <| Sv.block <| ssr <| un1 rfl ?_
  obtain ⟨x_, hx2, h⟩ := bnd h
  refine un1 (v := (.c (.rop (e_TNode x_)))) (s_iaddr (e := e_TNode) (xs := d_.Nodes) rfl rfl hx2) <| un1 (v := (.agg (e_TNode x_))) rfl <| un <| a2v (v := (.c (.ref 2 6 0 0))) (h' := upd _ 2 (some (.cells 6 [[cI 0, .str [], .ro true 2 [], .str [], cI 0, .ro true 1 []]]))) (n' := 3) rfl rfl hcs <| un1 rfl <| un <| a2n (h' := upd _ 2 (some (.cells 6 [(e_TNode x_)]))) (n' := 3) rfl rfl hcs <| dnil <| ssr <| un1 (v := (.c (.ref 2 6 0 0))) rfl <| un1 (v := (I x_.Kind)) rfl <| un1 (v := (B (decide (x_.Kind = 2)))) rfl <| dnil ?_
  refine Sv.cnd rfl h (fun h => ?_) fun h => ?_
  ·refine srg <| un1 rfl <| un1 rfl <| un1 (v := (.agg (e_TDoc d_))) rfl <| un1 rfl ?_
   obtain ⟨r_1, hr2, h⟩ := bnd h
   refine un <| ac_pure (Zbt hr2) rfl rfl rfl ?_
   obtain ⟨x_1, hx3, h⟩ := bnd h
   refine un1 (v := (.c (.ref 1 1 v20.toNat 0))) (s_iaddrL rfl rfl hzout hx3) <| un <| a2n (h' := upd _ 1 (lstB zout 1 ((out.set v20.toNat r_1).map eStr))) (n' := 3) rfl (s_storeL (e := eStr) (q' := r_1) rfl rfl hzout hx3 rfl rfl rfl (Nat.le_of_ble_eq_true rfl) rfl) hcs ?_
   try rw [len_set out v20.toNat r_1]
   refine dnil ?_
   exact Sv.weak (wcn [0, 1] rfl (.cf rfl rfl (.cf rfl rfl (.cf rfl rfl (.cons rfl (.c (lsr rfl rfl)) (.cr rfl rfl rfl .nil))))) (.row (by decide) rfl (fr_map fun _ => rfl) (.box (by decide) rfl (blkAs_cells (.sm rfl (.sm rfl .nil))) .nil))) (Z7q (hz_len hzout (len_set out v20.toNat r_1)) h hself hK0 hr)
  ·refine Sv.skip ?_
   exact Sv.weak (wcn [0, 1] rfl (.cf rfl rfl (.cf rfl rfl (.cf rfl rfl (.cons rfl (.c (lsr rfl rfl)) (.cr rfl rfl rfl .nil))))) (.row (by decide) rfl (fr_map fun _ => rfl) (.box (by decide) rfl (blkAs_cells (.sm rfl (.sm rfl .nil))) .nil))) (Z7q hzout h hself hK0 hr)
 ·refine Sv.exit ?_
  exact hK0 out zout hzout h _ (wcn [1] rfl (.cons rfl (.c (lsr rfl rfl)) .nil) (.row (by decide) rfl (fr_map fun _ => rfl) .nil))
/-- clerestory/look.Owners -/
noncomputable def Z4e (d_ : TDoc) : Option (TT × Int) :=
 (Z2i d_).bind fun r_ =>
 if (!decide (r_ = 0)) then
  some (([] : TT), r_)
 else
  (mkl? 16 (d_.Nodes.length : Int) (d_.Nodes.length : Int) ([] : Tx)).bind fun row =>
  lim fun kk => Zb d_ (fun (out1 : TT) => 
    some (out1, 0)) kk row 0
theorem Zbv {mL : Int} {d_ : TDoc} {r : (TT × Int)} (h : Z4e d_ = some r) : ACalls Tryz.prog (GG mL) 15 [(.agg (e_TDoc d_))] e0 0 (Z4d r) := by
 refine acalls_of_sv hmix c15 (R := Z4d r) ?_
 unfold Z4e at h
 refine ssr <| un <| a2v (v := (.c (.ref 0 2 0 0))) (h' := upd _ 0 (some (.cells 2 [(e_TDoc d_)]))) (n' := 1) rfl rfl hcs <| un1 rfl <| un1 rfl <| dnil <| Sv.seq <| ssr <| un1 (v := (.agg (e_TDoc d_))) rfl ?_
 obtain ⟨r_, hr1, h⟩ := bnd h
 refine un <| ac_pure (Z7i hr1) rfl rfl rfl <| un1 rfl <| dnil <| ssr <| un1 rfl <| un1 (v := (B (!decide (r_ = 0)))) rfl <| dnil ?_
 refine Sv.cnd rfl h (fun h => ?_) fun h => ?_
 ·refine ssr <| un1 rfl <| un1 rfl <| un1 rfl <| dnil <| Sv.ret ?_
  replace h := Option.some.inj h
  subst h
  exact ⟨_, .refl _, _, rfl, ⟨upd e0 0 (some (.tup [(lstV true 0 1 ([] : TT).length), (I r_)])), (upd e0 0 (lstB true 1 (([] : TT).map eStr))), 1⟩, (.tup [(lstV true 0 1 ([] : TT).length), (I r_)]), weak_canon2 [1000] [0] (by decide) (by decide) nlz (.cons (by decide) .nil) (.cons rfl (avAs_tup (.cons (.c (.same rfl)) (.cons (avAs_free rfl) .nil))) .nil) (.non (by decide) .nil), rfl, true, (fun _ => rfl), rfl, rfl, rfl⟩
 ·refine Sv.skip <| ssr <| un1 (v := (.c (.ref 0 2 0 0))) rfl <| un1 (v := (.c (.ro false 6 (d_.Nodes.map e_TNode)))) rfl <| un1 (v := (I (d_.Nodes.length : Int))) (s_len (e := e_TNode) (xs := d_.Nodes) rfl) ?_
  obtain ⟨row, hx1, h⟩ := bnd h
  refine un <| a2mk (e := eStr) rfl rfl hx1 (fun _ _ => (.sm rfl .nil)) <| un1 rfl <| dnil <| Sv.seq <| ssr <| un1 (v := (.c (.ref 0 2 0 0))) rfl <| un1 (v := (.c (.ro false 6 (d_.Nodes.map e_TNode)))) rfl <| un1 (v := (I (d_.Nodes.length : Int))) (s_len (e := e_TNode) (xs := d_.Nodes) rfl) <| un1 rfl <| dnil <| Sv.block ?_
  obtain ⟨kk, h⟩ := lim_some h
  refine Sv.weak (wcn [0, 1] rfl (.cf rfl rfl (.cf rfl rfl (.cf rfl rfl (.cons rfl (.c (lsr rfl rfl)) (.cr rfl rfl rfl .nil))))) (.row (by decide) rfl (fr_map fun _ => rfl) (.box (by decide) rfl (blkAs_cells (.sm rfl (.sm rfl .nil))) .nil))) (Zbu hcs h ?_ (fun s hs => hs))
  ·intro out1 zout1 hzout1 h _ hw1
   refine Sv.weak hw1 <| ssr <| un1 rfl <| un1 rfl <| un1 rfl <| dnil <| Sv.ret ?_
   replace h := Option.some.inj h
   subst h
   exact ⟨_, .refl _, _, rfl, ⟨upd e0 0 (some (.tup [(lstV zout1 0 1 out1.length), (I 0)])), (upd e0 0 (lstB zout1 1 (out1.map eStr))), 1⟩, (.tup [(lstV zout1 0 1 out1.length), (I 0)]), weak_canon2 [0] [0] (by decide) (by decide) nlz (.cons (by decide) .nil) (.cons rfl (avAs_tup (.cons (.c (lsr rfl rfl)) (.cons (avAs_free rfl) .nil))) .nil) (.row (by decide) rfl (fr_map fun _ => rfl) .nil), rfl, zout1, hzout1, rfl, rfl, rfl⟩
def a17 : AFunc := ⟨2, [(.tmp 4)], (sr [(oP 2 (.box (.tmp 0))), (oP 4 (.mov kF))]
 (sr [(oP 5 (.faddr 0 (.tmp 2))), (oP 6 (.load false 1 (.tmp 5))), (mV 7 1), (oP 8 (.iaddr 6 (.tmp 6) (.tmp 7))), (oP 9 (.faddr 0 (.tmp 8))), (oP 10 (.load false 1 (.tmp 9))), (oP 11 (.bin .eql (.tmp 10) (kI 2))), (mV 4 11)]
 .ret))⟩
theorem c17 : compFunc Tryz.prog 17 = some a17 := by kernel_rfl
def Zbw (r : Bool) : AV → Heap → Nat → Prop := fun v h' n' => v = (B r) ∧ (h' = e0) ∧ n' = 0
/-- clerestory/clerestoryref2.IsElement -/
noncomputable def Z2l (d_ : TDoc) (n_ : Int) : Option Bool :=
 (at? d_.Nodes n_).bind fun x_ =>
 some (decide (x_.Kind = 2))
theorem Z7s {mL : Int} {d_ : TDoc} {n_ : Int} {r : Bool} (h : Z2l d_ n_ = some r) : CPure Tryz.prog (GG mL) 17 [(.agg (e_TDoc d_)), (I n_)] (B r) := by
 refine acalls_of_sv hmix c17 (R := Zbw r) ?_
 unfold Z2l at h
 refine ssr <| un <| a2v (v := (.c (.ref 0 2 0 0))) (h' := upd _ 0 (some (.cells 2 [(e_TDoc d_)]))) (n' := 1) rfl rfl hcs <| un1 rfl <| dnil <| ssr <| un1 (v := (.c (.ref 0 2 0 0))) rfl <| un1 (v := (.c (.ro false 6 (d_.Nodes.map e_TNode)))) rfl <| un1 rfl ?_
 obtain ⟨x_, hx1, h⟩ := bnd h
 refine un1 (v := (.c (.rop (e_TNode x_)))) (s_iaddr (e := e_TNode) (xs := d_.Nodes) rfl rfl hx1) <| un1 (v := (.c (.rop (e_TNode x_)))) rfl <| un1 (v := (I x_.Kind)) rfl <| un1 (v := (B (decide (x_.Kind = 2)))) rfl <| un1 rfl <| dnil <| Sv.ret ?_
 exact rt0 h rfl rfl ⟨rfl, rfl, rfl⟩
def a40_c0 : ACode := (.seq (sr [(mV 16 9), (mV 17 8), (oP 18 (.len (.tmp 17))), (oP 19 (.bin .lss (.tmp 16) (.tmp 18)))]
 (.cond (.tmp 19) .skip (.exit 0)))
 (.seq (.block 1 (sr [(mV 22 8), (mV 23 9), (oP 24 (.iaddr 2 (.tmp 22) (.tmp 23))), (oP 25 (.faddr 0 (.tmp 24))), (oP 26 (.load false 1 (.tmp 25))), (mV 27 2), (oP 28 (.bin .eql (.tmp 26) (.tmp 27)))]
 (.cond (.tmp 28) (sr [(mV 29 8), (mV 30 9), (oP 31 (.iaddr 2 (.tmp 29) (.tmp 30))), (oP 32 (.faddr 1 (.tmp 31))), (oP 33 (.load false 1 (.tmp 32))), (mV 6 33), (oP 7 (.mov kT))]
 .ret) .skip)))
 (.region [(mV 20 9), (oP 21 (.bin .add (.tmp 20) (kI 1))), (mV 9 21)])))
def a40 : AFunc := ⟨3, [(.tmp 6), (.tmp 7)], (sr [(oP 3 (.box (.tmp 0))), (oP 6 (.mov (.const (.c (.str []))))), (oP 7 (.mov kF))]
 (sr [(oP 10 (.faddr 0 (.tmp 3))), (oP 11 (.load false 1 (.tmp 10))), (mV 12 1), (oP 13 (.iaddr 6 (.tmp 11) (.tmp 12))), (oP 14 (.faddr 2 (.tmp 13))), (oP 15 (.load false 1 (.tmp 14))), (mV 8 15)]
 (.seq (sr [(oP 9 (.mov (kI 0)))]
 (.block 0 (.loop a40_c0)))
 (sr [(oP 6 (.mov (.const (.c (.str []))))), (oP 7 (.mov kF))]
 .ret))))⟩
theorem c40 : compFunc Tryz.prog 40 = some a40 := by kernel_rfl
def Z7t (r : (Tx × Bool)) : AV → Heap → Nat → Prop := fun v h' n' => v = (.tup [(S r.1), (B r.2)]) ∧ (h' = e0) ∧ n' = 0
abbrev Zbx (F_ : Unit → Option (Tx × Bool)) (o : (Tx × Bool)) (R_ : St → Prop) : Prop := ∀ (_ : Unit), F_ () = some o → ∀ s, Weak 0 s ⟨e0, e0, 0⟩ → R_ s
abbrev Z7u (name : Tx) (x_ : TNode) (F_ : Nat → Int → Option (Tx × Bool)) (o : (Tx × Bool)) : Nat → St → Prop := fun k s => ∃ (i_ : Int), F_ k i_ = some o ∧ s = ⟨(ue [(9, (I i_)), (8, (.c (.ro false 2 (x_.Attrs.map e_TAttr)))), (2, (S name))]), e0, 0⟩
abbrev Zby (name : Tx) (x_ : TNode) (F_ : Int → Option (Tx × Bool)) (o : (Tx × Bool)) (R_ : St → Prop) : Prop := ∀ (i_ : Int), F_ i_ = some o → ∀ s, Weak 0 s ⟨(ue [(9, (I i_)), (8, (.c (.ro false 2 (x_.Attrs.map e_TAttr)))), (2, (S name))]), e0, 0⟩ → R_ s
noncomputable def Zy (x_ : TNode) (name : Tx) (K0_ : Unit → Option (Tx × Bool)) : Nat → Int → Option (Tx × Bool)
 | 0, _ => none
 | k + 1, i_ =>
  if decide (i_ < (x_.Attrs.length : Int)) then
   (at? x_.Attrs i_).bind fun x_1 =>
   if decide (x_1.Name = name) then
    (at? x_.Attrs i_).bind fun x_2 =>
    some (x_2.Value, true)
   else
    (Zy x_ name K0_ k) (wi (i_ + 1))
  else
   K0_ ()
theorem Zbz {mL : Int} {Q : AExit → St → Prop} {x_ : TNode} {name : Tx} {K0_ : Unit → Option (Tx × Bool)} {k : Nat} {i_ : Int} {o : (Tx × Bool)} (h : Zy x_ name K0_ k i_ = some o)
  (hK0 : Zbx K0_ o (Q (.exit 0)))
  (hr : ∀ s, Ends a40.results 0 (Z7t o) .ret s → Q .ret s) :
  Sv Tryz.prog (GG mL) 0 (.loop a40_c0) Q ⟨(ue [(9, (I i_)), (8, (.c (.ro false 2 (x_.Attrs.map e_TAttr)))), (2, (S name))]), e0, 0⟩ := by
 refine Sv.loop (I := Z7u name x_ (Zy x_ name K0_) o) (fun k s hI => ?_) ⟨i_, h, rfl⟩
 clear h
 clear i_
 obtain ⟨i_, h, rfl⟩ := hI
 cases k with
 | zero => cases h
 | succ k =>
 rw [Zy] at h
 have hself : Zby name x_ (Zy x_ name K0_ k) o (rnd 0 (Z7u name x_ (Zy x_ name K0_) o) k Q) := fun i_ h s hw => ⟨_, k, hw, Nat.lt_succ_self k, i_, h, rfl⟩
 refine Sv.seq <| ssr <| un1 rfl <| un1 rfl <| un1 (v := (I (x_.Attrs.length : Int))) (s_len (e := e_TAttr) (xs := x_.Attrs) rfl) <| un1 (v := (B (decide (i_ < (x_.Attrs.length : Int))))) rfl <| dnil ?_
 refine Sv.cnd rfl h (fun h => ?_) fun h => ?_
 ·refine Sv.skip <| Sv.seq <| Sv.block <| ssr <| un1 rfl <| un1 rfl ?_
  obtain ⟨x_1, hx2, h⟩ := bnd h
  refine un1 (v := (.c (.rop (e_TAttr x_1)))) (s_iaddr (e := e_TAttr) (xs := x_.Attrs) rfl rfl hx2) <| un1 (v := (.c (.rop (e_TAttr x_1)))) rfl <| un1 (v := (S x_1.Name)) rfl <| un1 rfl <| un1 (v := (B (decide (x_1.Name = name)))) rfl <| dnil ?_
  refine Sv.cnd rfl h (fun h => ?_) fun h => ?_
  ·refine ssr <| un1 rfl <| un1 rfl ?_
   obtain ⟨x_2, hx3, h⟩ := bnd h
   refine un1 (v := (.c (.rop (e_TAttr x_2)))) (s_iaddr (e := e_TAttr) (xs := x_.Attrs) rfl rfl hx3) <| un1 (v := (.c (.rop [.str x_2.Value]))) rfl <| un1 (v := (S x_2.Value)) rfl <| un1 rfl <| un1 rfl <| dnil <| Sv.ret ?_
   exact hr _ (rt0 h rfl rfl ⟨rfl, rfl, rfl⟩)
  ·refine Sv.skip <| srg <| un1 rfl <| un1 (v := (I (wi (i_ + 1)))) rfl <| un1 rfl <| dnil ?_
   exact hself (wi (i_ + 1)) h _ (wcn [] rfl (.cf rfl rfl (.cf rfl rfl (.cf rfl rfl .nil))) .nil)
 ·refine Sv.exit ?_
  exact hK0 () h _ (wcn [] rfl .nil .nil)
/-- clerestory/clerestoryref2.AttrOf -/
noncomputable def Z4f (d_ : TDoc) (n_ : Int) (name : Tx) : Option (Tx × Bool) :=
 (at? d_.Nodes n_).bind fun x_ =>
 lim fun kk => Zy x_ name (fun (_ : Unit) => 
   some ([], false)) kk 0
theorem Zc0 {mL : Int} {d_ : TDoc} {n_ : Int} {name : Tx} {r : (Tx × Bool)} (h : Z4f d_ n_ name = some r) : CPure Tryz.prog (GG mL) 40 [(.agg (e_TDoc d_)), (I n_), (S name)] (.tup [(S r.1), (B r.2)]) := by
 refine acalls_of_sv hmix c40 (R := Z7t r) ?_
 unfold Z4f at h
 refine ssr <| un <| a2v (v := (.c (.ref 0 2 0 0))) (h' := upd _ 0 (some (.cells 2 [(e_TDoc d_)]))) (n' := 1) rfl rfl hcs <| un1 rfl <| un1 rfl <| dnil <| ssr <| un1 (v := (.c (.ref 0 2 0 0))) rfl <| un1 (v := (.c (.ro false 6 (d_.Nodes.map e_TNode)))) rfl <| un1 rfl ?_
 obtain ⟨x_, hx1, h⟩ := bnd h
 refine un1 (v := (.c (.rop (e_TNode x_)))) (s_iaddr (e := e_TNode) (xs := d_.Nodes) rfl rfl hx1) <| un1 (v := (.c (.rop [.ro false 2 (x_.Attrs.map e_TAttr), .str x_.Text, cI x_.Parent, .ro false 1 (x_.Kids.map eI)]))) rfl <| un1 (v := (.c (.ro false 2 (x_.Attrs.map e_TAttr)))) rfl <| un1 rfl <| dnil <| Sv.seq <| ssr <| un1 rfl <| dnil <| Sv.block ?_
 obtain ⟨kk, h⟩ := lim_some h
 refine Sv.weak (wcn [] rfl (.cf rfl rfl (.cf rfl rfl (.cf rfl rfl .nil))) .nil) (Zbz h ?_ (fun s hs => hs))
 ·intro _ h _ hw1
  refine Sv.weak hw1 <| ssr <| un1 rfl <| un1 rfl <| dnil <| Sv.ret ?_
  exact rt0 h rfl rfl ⟨rfl, rfl, rfl⟩
def a160 : AFunc := ⟨1, [(.tmp 2)], (sr [(oP 2 (.mov kF))]
 (sr [(mV 3 0), (oP 4 (.bin .eql (.tmp 3) (.const (.c (.val (.int .u8 32)))))), (mV 5 4), ⟨(some 6), (.mov (.tmp 0)), (some (5, false))⟩, ⟨(some 7), (.bin .eql (.tmp 6) (.const (.c (.val (.int .u8 9))))), (some (5, false))⟩, (oP 8 (.pick (.tmp 5) kT (.tmp 7))), (mV 9 8), ⟨(some 10), (.mov (.tmp 0)), (some (9, false))⟩, ⟨(some 11), (.bin .eql (.tmp 10) (.const (.c (.val (.int .u8 10))))), (some (9, false))⟩, (oP 12 (.pick (.tmp 9) kT (.tmp 11))), (mV 13 12), ⟨(some 14), (.mov (.tmp 0)), (some (13, false))⟩, ⟨(some 15), (.bin .eql (.tmp 14) (.const (.c (.val (.int .u8 12))))), (some (13, false))⟩, (oP 16 (.pick (.tmp 13) kT (.tmp 15))), (mV 17 16), ⟨(some 18), (.mov (.tmp 0)), (some (17, false))⟩, ⟨(some 19), (.bin .eql (.tmp 18) (.const (.c (.val (.int .u8 13))))), (some (17, false))⟩, (oP 20 (.pick (.tmp 17) kT (.tmp 19))), (mV 2 20)]
 .ret))⟩
theorem c160 : compFunc Tryz.prog 160 = some a160 := by kernel_rfl
def Zc1 (r : Bool) : AV → Heap → Nat → Prop := fun v h' n' => v = (B r) ∧ (h' = e0) ∧ n' = 0
/-- clerestory/clerestoryref2.Blank -/
def Z1g (c_ : Int) : Bool :=
 (((((decide (c_ = 32)) || (decide (c_ = 9))) || (decide (c_ = 10))) || (decide (c_ = 12))) || (decide (c_ = 13)))
theorem Z7v {mL : Int} (c_ : Int) : CPure Tryz.prog (GG mL) 160 [(.c (.val (.int .u8 c_)))] (B (Z1g c_)) := by
 generalize h : Z1g c_ = o
 refine acalls_of_sv hmix c160 (R := Zc1 o) ?_
 unfold Z1g at h
 refine ssr <| un1 rfl <| dnil <| ssr <| un1 rfl <| un1 (v := (B (decide (c_ = 32)))) rfl <| un1 rfl ?_
 refine gjoin 3 (d := 8) (v := (B ((decide (c_ = 32)) || (decide (c_ = 9))))) (fun X hX => ?_) ?_
 ·refine split2 (fun hc1 => ?_) (fun hc1 => ?_)
  ·refine gs rfl rfl <| gs rfl rfl <| un1 (v := (B true)) rfl <| dnil ?_
   exact hX _ (.putEq (by rw [hc1]; rfl) (.skp (.skp (.putEq (by rw [hc1]) (.refl _)) rfl) rfl))
  ·refine gt rfl <| a1 rfl <| gt rfl <| a1 (v := (B (decide (c_ = 9)))) rfl <| un1 (v := (B (decide (c_ = 9)))) rfl <| dnil ?_
   exact hX _ (.putEq (by rw [hc1]; rfl) (.skp (.skp (.putEq (by rw [hc1]) (.refl _)) rfl) rfl))
 refine un1 rfl ?_
 refine gjoin 3 (d := 12) (v := (B (((decide (c_ = 32)) || (decide (c_ = 9))) || (decide (c_ = 10))))) (fun X hX => ?_) ?_
 ·refine split2 (fun hc2 => ?_) (fun hc2 => ?_)
  ·refine gs rfl rfl <| gs rfl rfl <| un1 (v := (B true)) rfl <| dnil ?_
   exact hX _ (.putEq (by rw [hc2]; rfl) (.skp (.skp (.putEq (by rw [hc2]) (.refl _)) rfl) rfl))
  ·refine gt rfl <| a1 rfl <| gt rfl <| a1 (v := (B (decide (c_ = 10)))) rfl <| un1 (v := (B (decide (c_ = 10)))) rfl <| dnil ?_
   exact hX _ (.putEq (by rw [hc2]; rfl) (.skp (.skp (.putEq (by rw [hc2]) (.refl _)) rfl) rfl))
 refine un1 rfl ?_
 refine gjoin 3 (d := 16) (v := (B ((((decide (c_ = 32)) || (decide (c_ = 9))) || (decide (c_ = 10))) || (decide (c_ = 12))))) (fun X hX => ?_) ?_
 ·refine split2 (fun hc3 => ?_) (fun hc3 => ?_)
  ·refine gs rfl rfl <| gs rfl rfl <| un1 (v := (B true)) rfl <| dnil ?_
   exact hX _ (.putEq (by rw [hc3]; rfl) (.skp (.skp (.putEq (by rw [hc3]) (.refl _)) rfl) rfl))
  ·refine gt rfl <| a1 rfl <| gt rfl <| a1 (v := (B (decide (c_ = 12)))) rfl <| un1 (v := (B (decide (c_ = 12)))) rfl <| dnil ?_
   exact hX _ (.putEq (by rw [hc3]; rfl) (.skp (.skp (.putEq (by rw [hc3]) (.refl _)) rfl) rfl))
 refine un1 rfl ?_
 refine gjoin 3 (d := 20) (v := (B (((((decide (c_ = 32)) || (decide (c_ = 9))) || (decide (c_ = 10))) || (decide (c_ = 12))) || (decide (c_ = 13))))) (fun X hX => ?_) ?_
 ·refine split2 (fun hc4 => ?_) (fun hc4 => ?_)
  ·refine gs rfl rfl <| gs rfl rfl <| un1 (v := (B true)) rfl <| dnil ?_
   exact hX _ (.putEq (by rw [hc4]; rfl) (.skp (.skp (.putEq (by rw [hc4]) (.refl _)) rfl) rfl))
  ·refine gt rfl <| a1 rfl <| gt rfl <| a1 (v := (B (decide (c_ = 13)))) rfl <| un1 (v := (B (decide (c_ = 13)))) rfl <| dnil ?_
   exact hX _ (.putEq (by rw [hc4]; rfl) (.skp (.skp (.putEq (by rw [hc4]) (.refl _)) rfl) rfl))
 refine un1 rfl <| dnil <| Sv.ret ?_
 subst h
 exact ⟨_, .refl _, _, rfl, ⟨upd e0 0 (some (B (((((decide (c_ = 32)) || (decide (c_ = 9))) || (decide (c_ = 10))) || (decide (c_ = 12))) || (decide (c_ = 13))))), e0, 0⟩, (B (((((decide (c_ = 32)) || (decide (c_ = 9))) || (decide (c_ = 10))) || (decide (c_ = 12))) || (decide (c_ = 13)))), weak_canon [] rfl ndl nll nlz (.cf rfl rfl .nil) .nil, rfl, rfl, rfl, rfl⟩
def a161 : AFunc := ⟨2, [(.tmp 4)], (sr [(oP 4 (.mov (.const (.c (.val (.int .u8 0))))))]
 (.seq (sr [(mV 5 1), (mV 6 0), (oP 7 (.lenS (.tmp 6))), (oP 8 (.bin .lss (.tmp 5) (.tmp 7)))]
 (.cond (.tmp 8) (sr [(mV 9 0), (mV 10 1), (oP 11 (.idxS (.tmp 9) (.tmp 10))), (mV 4 11)]
 .ret) .skip))
 (sr [(oP 4 (.mov (.const (.c (.val (.int .u8 0))))))]
 .ret)))⟩
theorem c161 : compFunc Tryz.prog 161 = some a161 := by kernel_rfl
def Zc2 (r : Int) : AV → Heap → Nat → Prop := fun v h' n' => v = (.c (.val (.int .u8 r))) ∧ (h' = e0) ∧ n' = 0
/-- clerestory/clerestoryref2.at -/
noncomputable def Z6 (s_ : Tx) (i_ : Int) : Option Int :=
 if decide (i_ < (s_.length : Int)) then
  (at? s_ i_).bind fun c_ =>
  some (c_.toNat : Int)
 else
  some 0
theorem Z18 {mL : Int} {s_ : Tx} {i_ : Int} {r : Int} (h : Z6 s_ i_ = some r) : CPure Tryz.prog (GG mL) 161 [(S s_), (I i_)] (.c (.val (.int .u8 r))) := by
 refine acalls_of_sv hmix c161 (R := Zc2 r) ?_
 unfold Z6 at h
 refine ssr <| un1 rfl <| dnil <| Sv.seq <| ssr <| un1 rfl <| un1 rfl <| un1 (v := (I (s_.length : Int))) rfl <| un1 (v := (B (decide (i_ < (s_.length : Int))))) rfl <| dnil ?_
 refine Sv.cnd rfl h (fun h => ?_) fun h => ?_
 ·refine ssr <| un1 rfl <| un1 rfl ?_
  obtain ⟨c_, hx1, h⟩ := bnd h
  refine un1 (v := (.c (.val (.int .u8 (c_.toNat : Int))))) (s_idxS rfl rfl hx1) <| un1 rfl <| dnil <| Sv.ret ?_
  exact rt0 h rfl rfl ⟨rfl, rfl, rfl⟩
 ·refine Sv.skip <| ssr <| un1 rfl <| dnil <| Sv.ret ?_
  exact rt0 h rfl rfl ⟨rfl, rfl, rfl⟩
def a162_c0 : ACode := (.cond (.tmp 21) (sr [(mV 22 0), (mV 23 3), (oP 24 (.bin .add (.tmp 23) (kI 2))), (oP 25 (.slStr (.tmp 22) none (some (.tmp 24)))), (oP 26 (.build [(.val (.int .i64 0)), (.str []), (.str []), (.val (.int .i64 0))] [(0, (1, (kI 9))), (1, (1, (.tmp 25)))])), (oN (.store 4 (.tmp 2) (.tmp 26)))]
 .ret) .skip)
def a162_c1 : ACode := (.region [(mV 9 3), (oP 10 (.bin .add (.tmp 9) (kI 1))), (mV 3 10)])
def a162_c2 : ACode := (.seq (sr [(mV 4 3), (oP 5 (.bin .add (.tmp 4) (kI 1))), (mV 6 0), (oP 7 (.lenS (.tmp 6))), (oP 8 (.bin .lss (.tmp 5) (.tmp 7)))]
 (.cond (.tmp 8) .skip (.exit 0)))
 (.seq (.block 1 (sr [(mV 11 0), (mV 12 3), (oP 13 (.idxS (.tmp 11) (.tmp 12))), (oP 14 (.bin .eql (.tmp 13) (.const (.c (.val (.int .u8 42)))))), (mV 15 14), ⟨(some 16), (.mov (.tmp 0)), (some (15, true))⟩, ⟨(some 17), (.mov (.tmp 3)), (some (15, true))⟩, ⟨(some 18), (.bin .add (.tmp 17) (kI 1)), (some (15, true))⟩, ⟨(some 19), (.idxS (.tmp 16) (.tmp 18)), (some (15, true))⟩, ⟨(some 20), (.bin .eql (.tmp 19) (.const (.c (.val (.int .u8 47))))), (some (15, true))⟩, (oP 21 (.pick (.tmp 15) (.tmp 20) kF))]
 a162_c0))
 a162_c1))
def a162 : AFunc := ⟨1, [(.cell true 4 2)], (sr [(oP 2 (.box (.const (.agg [(.val (.int .i64 0)), (.str []), (.str []), (.val (.int .i64 0))]))))]
 (.seq (sr [(oP 3 (.mov (kI 2)))]
 (.block 0 (.loop a162_c2)))
 (sr [(mV 27 0), (oP 28 (.build [(.val (.int .i64 0)), (.str []), (.str []), (.val (.int .i64 0))] [(0, (1, (kI 9))), (1, (1, (.tmp 27)))])), (oN (.store 4 (.tmp 2) (.tmp 28)))]
 .ret)))⟩
theorem c162 : compFunc Tryz.prog 162 = some a162 := by kernel_rfl
def Z5e (r : TSToken) : AV → Heap → Nat → Prop := fun v h' n' => v = (.agg (e_TSToken r)) ∧ (h' = e0) ∧ n' = 0
abbrev Zc3 (mL : Int) (Q : AExit → St → Prop) : AExit → St → Prop := AThen (Sv Tryz.prog (GG mL) 0 a162_c1 Q) Q
abbrev Zc4 (mL : Int) (Q : AExit → St → Prop) : AExit → St → Prop := ABlock 1 (Zc3 mL Q)
abbrev Z7w (s_ : Tx) (F_ : Int → Option TSToken) (o : TSToken) (R_ : St → Prop) : Prop := ∀ (i_ : Int), F_ i_ = some o → ∀ s, Weak 0 s ⟨(ue [(3, (I i_)), (2, (.c (.ref 0 4 0 0))), (0, (S s_))]), (upd e0 0 (some (.cells 4 [[cI 0, .str [], .str [], cI 0]]))), 1⟩ → R_ s
abbrev Z7x (s_ : Tx) (F_ : Unit → Option TSToken) (o : TSToken) (R_ : St → Prop) : Prop := ∀ (_ : Unit), F_ () = some o → ∀ s, Weak 0 s ⟨(ue [(2, (.c (.ref 0 4 0 0))), (0, (S s_))]), (upd e0 0 (some (.cells 4 [[cI 0, .str [], .str [], cI 0]]))), 1⟩ → R_ s
noncomputable def Z3g (s_ : Tx) (i_ : Int) (self : Int → Option TSToken) (K0_ : Unit → Option TSToken) (v21 : Bool) : Option TSToken :=
 if v21 then
  (sub? s_ 0 (wi (i_ + 2))).bind fun r_ =>
  some (⟨9, r_, [], 0⟩ : TSToken)
 else
  self (wi (i_ + 1))
theorem Z7y {mL : Int} {Q : AExit → St → Prop} {s_ : Tx} {i_ : Int} {self : Int → Option TSToken} {K0_ : Unit → Option TSToken} {v21 : Bool} {o : TSToken} (h : Z3g s_ i_ self K0_ v21 = some o)
  (hself : Z7w s_ self o (Q .normal))
  (hK0 : Z7x s_ K0_ o (Q (.exit 0)))
  (hr : ∀ s, Ends a162.results 0 (Z5e o) .ret s → Q .ret s) :
  Sv Tryz.prog (GG mL) 0 a162_c0 (Zc4 mL Q) ⟨(ue [(21, (B v21)), (3, (I i_)), (2, (.c (.ref 0 4 0 0))), (0, (S s_))]), (upd e0 0 (some (.cells 4 [[cI 0, .str [], .str [], cI 0]]))), 1⟩ := by
 unfold Z3g at h
 refine Sv.cnd rfl h (fun h => ?_) fun h => ?_
 ·refine ssr <| un1 rfl <| un1 rfl <| un1 (v := (I (wi (i_ + 2)))) rfl ?_
  obtain ⟨r_, hx1, h⟩ := bnd h
  refine un1 (v := (S r_)) (s_slStr rfl rfl rfl hx1) <| un1 (v := (.agg [cI 9, .str r_, .str [], cI 0])) rfl <| un <| a2n (h' := upd _ 0 (some (.cells 4 [[cI 9, .str r_, .str [], cI 0]]))) (n' := 1) rfl rfl hcs <| dnil <| Sv.ret ?_
  exact hr _ (rt0 h rfl rfl ⟨rfl, rfl, rfl⟩)
 ·refine Sv.skip <| srg <| un1 rfl <| un1 (v := (I (wi (i_ + 1)))) rfl <| un1 rfl <| dnil ?_
  exact hself (wi (i_ + 1)) h _ (wcn [0] rfl (.cf rfl rfl (.cr rfl rfl rfl (.cf rfl rfl .nil))) (.box (by decide) rfl (blkAs_cells (.sm rfl (.sm rfl (.sm rfl (.sm rfl .nil))))) .nil))
abbrev Z7z (s_ : Tx) (F_ : Nat → Int → Option TSToken) (o : TSToken) : Nat → St → Prop := fun k s => ∃ (i_ : Int), F_ k i_ = some o ∧ s = ⟨(ue [(3, (I i_)), (2, (.c (.ref 0 4 0 0))), (0, (S s_))]), (upd e0 0 (some (.cells 4 [[cI 0, .str [], .str [], cI 0]]))), 1⟩
noncomputable def Zz (s_ : Tx) (K0_ : Unit → Option TSToken) : Nat → Int → Option TSToken
 | 0, _ => none
 | k + 1, i_ =>
  if decide ((wi (i_ + 1)) < (s_.length : Int)) then
   (at? s_ i_).bind fun c_ =>
   if decide ((c_.toNat : Int) = 42) then
    (at? s_ (wi (i_ + 1))).bind fun c_1 =>
    Z3g s_ i_ (Zz s_ K0_ k) K0_ (decide ((c_1.toNat : Int) = 47))
   else
    Z3g s_ i_ (Zz s_ K0_ k) K0_ false
  else
   K0_ ()
theorem Zc5 {mL : Int} {Q : AExit → St → Prop} {s_ : Tx} {K0_ : Unit → Option TSToken} {k : Nat} {i_ : Int} {o : TSToken} (h : Zz s_ K0_ k i_ = some o)
  (hK0 : Z7x s_ K0_ o (Q (.exit 0)))
  (hr : ∀ s, Ends a162.results 0 (Z5e o) .ret s → Q .ret s) :
  Sv Tryz.prog (GG mL) 0 (.loop a162_c2) Q ⟨(ue [(3, (I i_)), (2, (.c (.ref 0 4 0 0))), (0, (S s_))]), (upd e0 0 (some (.cells 4 [[cI 0, .str [], .str [], cI 0]]))), 1⟩ := by
 refine Sv.loop (I := Z7z s_ (Zz s_ K0_) o) (fun k s hI => ?_) ⟨i_, h, rfl⟩
 clear h
 clear i_
 obtain ⟨i_, h, rfl⟩ := hI
 cases k with
 | zero => cases h
 | succ k =>
 rw [Zz] at h
 have hself : Z7w s_ (Zz s_ K0_ k) o (rnd 0 (Z7z s_ (Zz s_ K0_) o) k Q) := fun i_ h s hw => ⟨_, k, hw, Nat.lt_succ_self k, i_, h, rfl⟩
 refine Sv.seq <| ssr <| un1 rfl <| un1 (v := (I (wi (i_ + 1)))) rfl <| un1 rfl <| un1 (v := (I (s_.length : Int))) rfl <| un1 (v := (B (decide ((wi (i_ + 1)) < (s_.length : Int))))) rfl <| dnil ?_
 refine Sv.cnd rfl h (fun h => ?_) fun h => ?_
 ·refine Sv.skip <| Sv.seq <| Sv.block <| ssr <| un1 rfl <| un1 rfl ?_
  obtain ⟨c_, hx2, h⟩ := bnd h
  refine un1 (v := (.c (.val (.int .u8 (c_.toNat : Int))))) (s_idxS rfl rfl hx2) <| un1 (v := (B (decide ((c_.toNat : Int) = 42)))) rfl <| un1 rfl ?_
  refine spl h (fun h => ?_) fun h => ?_
  ·refine gt rfl <| a1 rfl <| gt rfl <| a1 rfl <| gt rfl <| a1 (v := (I (wi (i_ + 1)))) rfl ?_
   obtain ⟨c_1, hx3, h⟩ := bnd h
   refine gt rfl <| a1 (v := (.c (.val (.int .u8 (c_1.toNat : Int))))) (s_idxS rfl rfl hx3) <| gt rfl <| a1 (v := (B (decide ((c_1.toNat : Int) = 47)))) rfl <| un1 (v := (B (decide ((c_1.toNat : Int) = 47)))) rfl <| dnil ?_
   exact Sv.weak (wcn [0] rfl (.cf rfl rfl (.cf rfl rfl (.cr rfl rfl rfl (.cf rfl rfl .nil)))) (.box (by decide) rfl (blkAs_cells (.sm rfl (.sm rfl (.sm rfl (.sm rfl .nil))))) .nil)) (Z7y h hself hK0 hr)
  ·repeat (first | refine gu rfl ?_ | refine gs rfl rfl ?_)
   refine un1 (v := (B false)) rfl <| dnil ?_
   exact Sv.weak (wcn [0] rfl (.cf rfl rfl (.cf rfl rfl (.cr rfl rfl rfl (.cf rfl rfl .nil)))) (.box (by decide) rfl (blkAs_cells (.sm rfl (.sm rfl (.sm rfl (.sm rfl .nil))))) .nil)) (Z7y h hself hK0 hr)
 ·refine Sv.exit ?_
  exact hK0 () h _ (wcn [0] rfl (.cr rfl rfl rfl (.cf rfl rfl .nil)) (.box (by decide) rfl (blkAs_cells (.sm rfl (.sm rfl (.sm rfl (.sm rfl .nil))))) .nil))
/-- clerestory/clerestoryref2.noteAt -/
noncomputable def Z3h (s_ : Tx) : Option TSToken :=
 lim fun kk => Zz s_ (fun (_ : Unit) => 
   some (⟨9, s_, [], 0⟩ : TSToken)) kk 2
theorem Zc6 {mL : Int} {s_ : Tx} {r : TSToken} (h : Z3h s_ = some r) : CPure Tryz.prog (GG mL) 162 [(S s_)] (.agg (e_TSToken r)) := by
 refine acalls_of_sv hmix c162 (R := Z5e r) ?_
 unfold Z3h at h
 refine ssr <| un <| a2v (v := (.c (.ref 0 4 0 0))) (h' := upd _ 0 (some (.cells 4 [[cI 0, .str [], .str [], cI 0]]))) (n' := 1) rfl rfl hcs <| dnil <| Sv.seq <| ssr <| un1 rfl <| dnil <| Sv.block ?_
 obtain ⟨kk, h⟩ := lim_some h
 refine Sv.weak (wcn [0] rfl (.cf rfl rfl (.cr rfl rfl rfl (.cf rfl rfl .nil))) (.box (by decide) rfl (blkAs_cells (.sm rfl (.sm rfl (.sm rfl (.sm rfl .nil))))) .nil)) (Zc5 h ?_ (fun s hs => hs))
 ·intro _ h _ hw1
  refine Sv.weak hw1 <| ssr <| un1 rfl <| un1 (v := (.agg [cI 9, .str s_, .str [], cI 0])) rfl <| un <| a2n (h' := upd _ 0 (some (.cells 4 [[cI 9, .str s_, .str [], cI 0]]))) (n' := 1) rfl rfl hcs <| dnil <| Sv.ret ?_
  exact rt0 h rfl rfl ⟨rfl, rfl, rfl⟩
def a163_c0 : ACode := (.cond (.tmp 22) .skip (.exit 0))
def a163_c1 : ACode := (sr [(mV 36 3), (mV 37 0), (mV 38 4), (mV 39 4), (oP 40 (.bin .add (.tmp 39) (kI 1))), (oP 41 (.slStr (.tmp 37) (some (.tmp 38)) (some (.tmp 40)))), (oP 42 (.bin .add (.tmp 36) (.tmp 41))), (mV 3 42)]
 (.region [(mV 43 4), (oP 44 (.bin .add (.tmp 43) (kI 1))), (mV 4 44)]))
def a163_c2 : ACode := (.block 1 (.seq (sr [(mV 23 0), (mV 24 4), (oP 25 (.idxS (.tmp 23) (.tmp 24))), (oP 26 (.bin .eql (.tmp 25) (.const (.c (.val (.int .u8 92)))))), (mV 27 26), ⟨(some 28), (.mov (.tmp 4)), (some (27, true))⟩, ⟨(some 29), (.bin .add (.tmp 28) (kI 1)), (some (27, true))⟩, ⟨(some 30), (.mov (.tmp 0)), (some (27, true))⟩, ⟨(some 31), (.lenS (.tmp 30)), (some (27, true))⟩, ⟨(some 32), (.bin .lss (.tmp 29) (.tmp 31)), (some (27, true))⟩, (oP 33 (.pick (.tmp 27) (.tmp 32) kF))]
 (.cond (.tmp 33) (.region [(mV 34 4), (oP 35 (.bin .add (.tmp 34) (kI 1))), (mV 4 35)]) .skip))
 a163_c1))
def a163_c3 : ACode := (.seq (.seq (.drawn (.fin [((mV 5 4), (0, 0)), ((mV 6 0), (0, 1)), ((oP 7 (.lenS (.tmp 6))), (0, 2)), ((oP 8 (.bin .lss (.tmp 5) (.tmp 7))), (0, 3)), ((mV 9 8), (0, 4)), (⟨(some 10), (.mov (.tmp 0)), (some (9, true))⟩, (0, 5)), (⟨(some 11), (.mov (.tmp 4)), (some (9, true))⟩, (0, 6)), (⟨(some 12), (.idxS (.tmp 10) (.tmp 11)), (some (9, true))⟩, (0, 7)), (⟨(some 13), (.bin .neq (.tmp 12) (.const (.c (.val (.int .u8 10))))), (some (9, true))⟩, (0, 8)), ((oP 14 (.pick (.tmp 9) (.tmp 13) kF)), (0, 9)), ((mV 15 14), (0, 10)), (⟨(some 16), (.mov (.tmp 0)), (some (15, true))⟩, (0, 11)), (⟨(some 17), (.mov (.tmp 4)), (some (15, true))⟩, (0, 12)), (⟨(some 18), (.idxS (.tmp 16) (.tmp 17)), (some (15, true))⟩, (0, 13)), (⟨(some 19), (.mov (.tmp 0)), (some (15, true))⟩, (0, 14)), (⟨(some 20), (.idxS (.tmp 19) (kI 0)), (some (15, true))⟩, (0, 15)), (⟨(some 21), (.bin .neq (.tmp 18) (.tmp 20)), (some (15, true))⟩, (0, 16)), ((oP 22 (.pick (.tmp 15) (.tmp 21) kF)), (0, 17))]))
 a163_c0)
 a163_c2)
def a163_c4 : ACode := (.cond (.tmp 56) (sr [(mV 57 0), (mV 58 4), (oP 59 (.bin .add (.tmp 58) (kI 1))), (oP 60 (.slStr (.tmp 57) none (some (.tmp 59)))), (mV 61 3), (oP 62 (.build [(.val (.int .i64 0)), (.str []), (.str []), (.val (.int .i64 0))] [(0, (1, (kI 5))), (1, (1, (.tmp 60))), (2, (1, (.tmp 61)))])), (oN (.store 4 (.tmp 2) (.tmp 62)))]
 .ret) .skip)
def a163_c5 : ACode := (sr [(mV 63 0), (mV 64 4), (oP 65 (.slStr (.tmp 63) none (some (.tmp 64)))), (oP 66 (.build [(.val (.int .i64 0)), (.str []), (.str []), (.val (.int .i64 0))] [(0, (1, (kI 6))), (1, (1, (.tmp 65)))])), (oN (.store 4 (.tmp 2) (.tmp 66)))]
 .ret)
def a163 : AFunc := ⟨1, [(.cell true 4 2)], (sr [(oP 2 (.box (.const (.agg [(.val (.int .i64 0)), (.str []), (.str []), (.val (.int .i64 0))]))))]
 (sr [(oP 3 (.mov (.const (.c (.str [])))))]
 (sr [(oP 4 (.mov (kI 1)))]
 (.seq (.block 0 (.loop a163_c3))
 (.seq (.seq (.drawn (.fin [((mV 45 4), (0, 0)), ((mV 46 0), (0, 1)), ((oP 47 (.lenS (.tmp 46))), (0, 2)), ((oP 48 (.bin .lss (.tmp 45) (.tmp 47))), (0, 3)), ((mV 49 48), (0, 4)), (⟨(some 50), (.mov (.tmp 0)), (some (49, true))⟩, (0, 5)), (⟨(some 51), (.mov (.tmp 4)), (some (49, true))⟩, (0, 6)), (⟨(some 52), (.idxS (.tmp 50) (.tmp 51)), (some (49, true))⟩, (0, 7)), (⟨(some 53), (.mov (.tmp 0)), (some (49, true))⟩, (0, 8)), (⟨(some 54), (.idxS (.tmp 53) (kI 0)), (some (49, true))⟩, (0, 9)), (⟨(some 55), (.bin .eql (.tmp 52) (.tmp 54)), (some (49, true))⟩, (0, 10)), ((oP 56 (.pick (.tmp 49) (.tmp 55) kF)), (0, 11))]))
 a163_c4)
 a163_c5)))))⟩
theorem c163 : compFunc Tryz.prog 163 = some a163 := by kernel_rfl
def Z2m (r : TSToken) : AV → Heap → Nat → Prop := fun v h' n' => v = (.agg (e_TSToken r)) ∧ (h' = e0) ∧ n' = 0
abbrev Zc7 (mL : Int) (Q : AExit → St → Prop) : AExit → St → Prop := ABlock 1 Q
abbrev Z5f (s_ : Tx) (F_ : Tx → Int → Option TSToken) (o : TSToken) (R_ : St → Prop) : Prop := ∀ (value : Tx) (i_ : Int), F_ value i_ = some o → ∀ s, Weak 0 s ⟨(ue [(4, (I i_)), (3, (S value)), (2, (.c (.ref 0 4 0 0))), (0, (S s_))]), (upd e0 0 (some (.cells 4 [[cI 0, .str [], .str [], cI 0]]))), 1⟩ → R_ s
abbrev Z5g (s_ : Tx) (F_ : Tx → Int → Option TSToken) (o : TSToken) (R_ : St → Prop) : Prop := ∀ (value1 : Tx) (i_1 : Int), F_ value1 i_1 = some o → ∀ s, Weak 0 s ⟨(ue [(4, (I i_1)), (3, (S value1)), (2, (.c (.ref 0 4 0 0))), (0, (S s_))]), (upd e0 0 (some (.cells 4 [[cI 0, .str [], .str [], cI 0]]))), 1⟩ → R_ s
noncomputable def Z3i (s_ : Tx) (value : Tx) (self : Tx → Int → Option TSToken) (K0_ : Tx → Int → Option TSToken) (i_2 : Int) : Option TSToken :=
 (sub? s_ i_2 (wi (i_2 + 1))).bind fun r_ =>
 (cat? value r_).bind fun r_1 =>
 self r_1 (wi (i_2 + 1))
theorem Z80 {mL : Int} {Q : AExit → St → Prop} {s_ : Tx} {value : Tx} {self : Tx → Int → Option TSToken} {K0_ : Tx → Int → Option TSToken} {i_2 : Int} {o : TSToken} (h : Z3i s_ value self K0_ i_2 = some o)
  (hself : Z5f s_ self o (Q .normal))
  (hK0 : Z5g s_ K0_ o (Q (.exit 0)))
  (hr : ∀ s, Ends a163.results 0 (Z2m o) .ret s → Q .ret s) :
  Sv Tryz.prog (GG mL) 0 a163_c1 (Zc7 mL Q) ⟨(ue [(4, (I i_2)), (3, (S value)), (2, (.c (.ref 0 4 0 0))), (0, (S s_))]), (upd e0 0 (some (.cells 4 [[cI 0, .str [], .str [], cI 0]]))), 1⟩ := by
 unfold Z3i at h
 refine ssr <| un1 rfl <| un1 rfl <| un1 rfl <| un1 rfl <| un1 (v := (I (wi (i_2 + 1)))) rfl ?_
 obtain ⟨r_, hx1, h⟩ := bnd h
 refine un1 (v := (S r_)) (s_slStr rfl rfl rfl hx1) ?_
 obtain ⟨r_1, hx2, h⟩ := bnd h
 refine un1 (v := (S r_1)) (s_cat rfl rfl hx2) <| un1 rfl <| dnil <| srg <| un1 rfl <| un1 (v := (I (wi (i_2 + 1)))) rfl <| un1 rfl <| dnil ?_
 exact hself r_1 (wi (i_2 + 1)) h _ (wcn [0] rfl (.cf rfl rfl (.cf rfl rfl (.cr rfl rfl rfl (.cf rfl rfl .nil)))) (.box (by decide) rfl (blkAs_cells (.sm rfl (.sm rfl (.sm rfl (.sm rfl .nil))))) .nil))
abbrev Zc8 (mL : Int) (Q : AExit → St → Prop) : AExit → St → Prop := AThen (Sv Tryz.prog (GG mL) 0 a163_c2 Q) Q
noncomputable def Z2n (s_ : Tx) (i_ : Int) (value : Tx) (self : Tx → Int → Option TSToken) (K0_ : Tx → Int → Option TSToken) (v22 : Bool) : Option TSToken :=
 if v22 then
  (at? s_ i_).bind fun c_ =>
  if ((decide ((c_.toNat : Int) = 92)) && (decide ((wi (i_ + 1)) < (s_.length : Int)))) then
   Z3i s_ value self K0_ (wi (i_ + 1))
  else
   Z3i s_ value self K0_ i_
 else
  K0_ value i_
theorem Z5h {mL : Int} {Q : AExit → St → Prop} {s_ : Tx} {i_ : Int} {value : Tx} {self : Tx → Int → Option TSToken} {K0_ : Tx → Int → Option TSToken} {v22 : Bool} {o : TSToken} (h : Z2n s_ i_ value self K0_ v22 = some o)
  (hself : Z5f s_ self o (Q .normal))
  (hK0 : Z5g s_ K0_ o (Q (.exit 0)))
  (hr : ∀ s, Ends a163.results 0 (Z2m o) .ret s → Q .ret s) :
  Sv Tryz.prog (GG mL) 0 a163_c0 (Zc8 mL Q) ⟨(ue [(22, (B v22)), (4, (I i_)), (3, (S value)), (2, (.c (.ref 0 4 0 0))), (0, (S s_))]), (upd e0 0 (some (.cells 4 [[cI 0, .str [], .str [], cI 0]]))), 1⟩ := by
 unfold Z2n at h
 refine Sv.cnd rfl h (fun h => ?_) fun h => ?_
 ·refine Sv.skip <| Sv.block <| Sv.seq <| ssr <| un1 rfl <| un1 rfl ?_
  obtain ⟨c_, hx3, h⟩ := bnd h
  refine un1 (v := (.c (.val (.int .u8 (c_.toNat : Int))))) (s_idxS rfl rfl hx3) <| un1 (v := (B (decide ((c_.toNat : Int) = 92)))) rfl <| un1 rfl ?_
  refine gjoin 6 (d := 33) (v := (B ((decide ((c_.toNat : Int) = 92)) && (decide ((wi (i_ + 1)) < (s_.length : Int)))))) (fun X hX => ?_) ?_
  ·refine split2 (fun hc2 => ?_) (fun hc2 => ?_)
   ·refine gt rfl <| a1 rfl <| gt rfl <| a1 (v := (I (wi (i_ + 1)))) rfl <| gt rfl <| a1 rfl <| gt rfl <| a1 (v := (I (s_.length : Int))) rfl <| gt rfl <| a1 (v := (B (decide ((wi (i_ + 1)) < (s_.length : Int))))) rfl <| un1 (v := (B (decide ((wi (i_ + 1)) < (s_.length : Int))))) rfl <| dnil ?_
    exact hX _ (.putEq (by rw [hc2]; rfl) (by repeat (first | exact .putEq (by rw [hc2]) (.refl _) | refine .skp ?_ rfl)))
   ·repeat (first | refine gu rfl ?_ | refine gs rfl rfl ?_)
    refine un1 (v := (B false)) rfl <| dnil ?_
    exact hX _ (.putEq (by rw [hc2]; rfl) (by repeat (first | exact .putEq (by rw [hc2]) (.refl _) | refine .skp ?_ rfl)))
  refine dnil ?_
  refine Sv.cnd rfl h (fun h => ?_) fun h => ?_
  ·refine srg <| un1 rfl <| un1 (v := (I (wi (i_ + 1)))) rfl <| un1 rfl <| dnil ?_
   exact Sv.weak (wcn [0] rfl (.cf rfl rfl (.cf rfl rfl (.cr rfl rfl rfl (.cf rfl rfl .nil)))) (.box (by decide) rfl (blkAs_cells (.sm rfl (.sm rfl (.sm rfl (.sm rfl .nil))))) .nil)) (Z80 h hself hK0 hr)
  ·refine Sv.skip ?_
   exact Sv.weak (wcn [0] rfl (.cf rfl rfl (.cf rfl rfl (.cr rfl rfl rfl (.cf rfl rfl .nil)))) (.box (by decide) rfl (blkAs_cells (.sm rfl (.sm rfl (.sm rfl (.sm rfl .nil))))) .nil)) (Z80 h hself hK0 hr)
 ·refine Sv.exit ?_
  exact hK0 value i_ h _ (wcn [0] rfl (.cf rfl rfl (.cf rfl rfl (.cr rfl rfl rfl (.cf rfl rfl .nil)))) (.box (by decide) rfl (blkAs_cells (.sm rfl (.sm rfl (.sm rfl (.sm rfl .nil))))) .nil))
abbrev Z81 (s_ : Tx) (F_ : Nat → Tx → Int → Option TSToken) (o : TSToken) : Nat → St → Prop := fun k s => ∃ (value : Tx), ∃ (i_ : Int), F_ k value i_ = some o ∧ s = ⟨(ue [(4, (I i_)), (3, (S value)), (2, (.c (.ref 0 4 0 0))), (0, (S s_))]), (upd e0 0 (some (.cells 4 [[cI 0, .str [], .str [], cI 0]]))), 1⟩
noncomputable def Zl (s_ : Tx) (K0_ : Tx → Int → Option TSToken) : Nat → Tx → Int → Option TSToken
 | 0, _, _ => none
 | k + 1, value, i_ =>
  if decide (i_ < (s_.length : Int)) then
   (at? s_ i_).bind fun c_1 =>
   if (!decide ((c_1.toNat : Int) = 10)) then
    (at? s_ i_).bind fun c_2 =>
    (at? s_ 0).bind fun c_3 =>
    Z2n s_ i_ value (Zl s_ K0_ k) K0_ (!decide ((c_2.toNat : Int) = (c_3.toNat : Int)))
   else
    Z2n s_ i_ value (Zl s_ K0_ k) K0_ false
  else
   Z2n s_ i_ value (Zl s_ K0_ k) K0_ false
theorem Zc9 {mL : Int} {Q : AExit → St → Prop} {s_ : Tx} {K0_ : Tx → Int → Option TSToken} {k : Nat} {value : Tx} {i_ : Int} {o : TSToken} (h : Zl s_ K0_ k value i_ = some o)
  (hK0 : Z5g s_ K0_ o (Q (.exit 0)))
  (hr : ∀ s, Ends a163.results 0 (Z2m o) .ret s → Q .ret s) :
  Sv Tryz.prog (GG mL) 0 (.loop a163_c3) Q ⟨(ue [(4, (I i_)), (3, (S value)), (2, (.c (.ref 0 4 0 0))), (0, (S s_))]), (upd e0 0 (some (.cells 4 [[cI 0, .str [], .str [], cI 0]]))), 1⟩ := by
 refine Sv.loop (I := Z81 s_ (Zl s_ K0_) o) (fun k s hI => ?_) ⟨value, i_, h, rfl⟩
 clear h
 clear i_ value
 obtain ⟨value, i_, h, rfl⟩ := hI
 cases k with
 | zero => cases h
 | succ k =>
 rw [Zl] at h
 have hself : Z5f s_ (Zl s_ K0_ k) o (rnd 0 (Z81 s_ (Zl s_ K0_) o) k Q) := fun value i_ h s hw => ⟨_, k, hw, Nat.lt_succ_self k, value, i_, h, rfl⟩
 refine Sv.seq <| Sv.seq <| Sv.drawn <| un1 rfl <| un1 rfl <| un1 (v := (I (s_.length : Int))) rfl <| un1 (v := (B (decide (i_ < (s_.length : Int))))) rfl <| un1 rfl ?_
 refine spl h (fun h => ?_) fun h => ?_
 ·refine gt rfl <| a1 rfl <| gt rfl <| a1 rfl ?_
  obtain ⟨c_1, hx4, h⟩ := bnd h
  refine gt rfl <| a1 (v := (.c (.val (.int .u8 (c_1.toNat : Int))))) (s_idxS rfl rfl hx4) <| gt rfl <| a1 (v := (B (!decide ((c_1.toNat : Int) = 10)))) rfl <| un1 (v := (B (!decide ((c_1.toNat : Int) = 10)))) rfl <| un1 rfl ?_
  refine spl h (fun h => ?_) fun h => ?_
  ·refine gt rfl <| a1 rfl <| gt rfl <| a1 rfl ?_
   obtain ⟨c_2, hx5, h⟩ := bnd h
   refine gt rfl <| a1 (v := (.c (.val (.int .u8 (c_2.toNat : Int))))) (s_idxS rfl rfl hx5) <| gt rfl <| a1 rfl ?_
   obtain ⟨c_3, hx6, h⟩ := bnd h
   refine gt rfl <| a1 (v := (.c (.val (.int .u8 (c_3.toNat : Int))))) (s_idxS rfl rfl hx6) <| gt rfl <| a1 (v := (B (!decide ((c_2.toNat : Int) = (c_3.toNat : Int))))) rfl <| un1 (v := (B (!decide ((c_2.toNat : Int) = (c_3.toNat : Int))))) rfl <| dnil ?_
   exact Sv.weak (wcn [0] rfl (.cf rfl rfl (.cf rfl rfl (.cf rfl rfl (.cr rfl rfl rfl (.cf rfl rfl .nil))))) (.box (by decide) rfl (blkAs_cells (.sm rfl (.sm rfl (.sm rfl (.sm rfl .nil))))) .nil)) (Z5h h hself hK0 hr)
  ·repeat (first | refine gu rfl ?_ | refine gs rfl rfl ?_)
   refine un1 (v := (B false)) rfl <| dnil ?_
   exact Sv.weak (wcn [0] rfl (.cf rfl rfl (.cf rfl rfl (.cf rfl rfl (.cr rfl rfl rfl (.cf rfl rfl .nil))))) (.box (by decide) rfl (blkAs_cells (.sm rfl (.sm rfl (.sm rfl (.sm rfl .nil))))) .nil)) (Z5h h hself hK0 hr)
 ·refine gs rfl rfl <| gs rfl rfl <| gs rfl rfl <| gs rfl rfl <| un1 (v := (B false)) rfl <| un1 rfl ?_
  repeat (first | refine gu rfl ?_ | refine gs rfl rfl ?_)
  refine un1 (v := (B false)) rfl <| dnil ?_
  exact Sv.weak (wcn [0] rfl (.cf rfl rfl (.cf rfl rfl (.cf rfl rfl (.cr rfl rfl rfl (.cf rfl rfl .nil))))) (.box (by decide) rfl (blkAs_cells (.sm rfl (.sm rfl (.sm rfl (.sm rfl .nil))))) .nil)) (Z5h h hself hK0 hr)
abbrev Zca (mL : Int) (o : TSToken) : AExit → St → Prop := AThen (Sv Tryz.prog (GG mL) 0 a163_c5 (Ends a163.results 0 (Z2m o))) (Ends a163.results 0 (Z2m o))
noncomputable def Z1h (s_ : Tx) (i_1 : Int) (value1 : Tx) (v56 : Bool) : Option TSToken :=
 if v56 then
  (sub? s_ 0 (wi (i_1 + 1))).bind fun r_2 =>
  some (⟨5, r_2, value1, 0⟩ : TSToken)
 else
  (sub? s_ 0 i_1).bind fun r_3 =>
  some (⟨6, r_3, [], 0⟩ : TSToken)
theorem Z82 {mL : Int} {s_ : Tx} {i_1 : Int} {value1 : Tx} {v56 : Bool} {o : TSToken} (h : Z1h s_ i_1 value1 v56 = some o) :
  Sv Tryz.prog (GG mL) 0 a163_c4 (Zca mL o) ⟨(ue [(56, (B v56)), (4, (I i_1)), (3, (S value1)), (2, (.c (.ref 0 4 0 0))), (0, (S s_))]), (upd e0 0 (some (.cells 4 [[cI 0, .str [], .str [], cI 0]]))), 1⟩ := by
 unfold Z1h at h
 refine Sv.cnd rfl h (fun h => ?_) fun h => ?_
 ·refine ssr <| un1 rfl <| un1 rfl <| un1 (v := (I (wi (i_1 + 1)))) rfl ?_
  obtain ⟨r_2, hx7, h⟩ := bnd h
  refine un1 (v := (S r_2)) (s_slStr rfl rfl rfl hx7) <| un1 rfl <| un1 (v := (.agg [cI 5, .str r_2, .str value1, cI 0])) rfl <| un <| a2n (h' := upd _ 0 (some (.cells 4 [[cI 5, .str r_2, .str value1, cI 0]]))) (n' := 1) rfl rfl hcs <| dnil <| Sv.ret ?_
  exact rt0 h rfl rfl ⟨rfl, rfl, rfl⟩
 ·refine Sv.skip <| ssr <| un1 rfl <| un1 rfl ?_
  obtain ⟨r_3, hx8, h⟩ := bnd h
  refine un1 (v := (S r_3)) (s_slStr rfl rfl rfl hx8) <| un1 (v := (.agg [cI 6, .str r_3, .str [], cI 0])) rfl <| un <| a2n (h' := upd _ 0 (some (.cells 4 [[cI 6, .str r_3, .str [], cI 0]]))) (n' := 1) rfl rfl hcs <| dnil <| Sv.ret ?_
  exact rt0 h rfl rfl ⟨rfl, rfl, rfl⟩
/-- clerestory/clerestoryref2.textAt -/
noncomputable def Z3j (s_ : Tx) : Option TSToken :=
 lim fun kk => Zl s_ (fun (value1 : Tx) (i_1 : Int) => 
   if decide (i_1 < (s_.length : Int)) then
    (at? s_ i_1).bind fun c_4 =>
    (at? s_ 0).bind fun c_5 =>
    Z1h s_ i_1 value1 (decide ((c_4.toNat : Int) = (c_5.toNat : Int)))
   else
    Z1h s_ i_1 value1 false) kk [] 1
theorem Zcb {mL : Int} {s_ : Tx} {r : TSToken} (h : Z3j s_ = some r) : CPure Tryz.prog (GG mL) 163 [(S s_)] (.agg (e_TSToken r)) := by
 refine acalls_of_sv hmix c163 (R := Z2m r) ?_
 unfold Z3j at h
 refine ssr <| un <| a2v (v := (.c (.ref 0 4 0 0))) (h' := upd _ 0 (some (.cells 4 [[cI 0, .str [], .str [], cI 0]]))) (n' := 1) rfl rfl hcs <| dnil <| ssr <| un1 rfl <| dnil <| ssr <| un1 rfl <| dnil <| Sv.seq <| Sv.block ?_
 obtain ⟨kk, h⟩ := lim_some h
 refine Sv.weak (wcn [0] rfl (.cf rfl rfl (.cf rfl rfl (.cr rfl rfl rfl (.cf rfl rfl .nil)))) (.box (by decide) rfl (blkAs_cells (.sm rfl (.sm rfl (.sm rfl (.sm rfl .nil))))) .nil)) (Zc9 h ?_ (fun s hs => hs))
 ·intro value1 i_1 h _ hw1
  refine Sv.weak hw1 <| Sv.seq <| Sv.seq <| Sv.drawn <| un1 rfl <| un1 rfl <| un1 (v := (I (s_.length : Int))) rfl <| un1 (v := (B (decide (i_1 < (s_.length : Int))))) rfl <| un1 rfl ?_
  refine spl h (fun h => ?_) fun h => ?_
  ·refine gt rfl <| a1 rfl <| gt rfl <| a1 rfl ?_
   obtain ⟨c_4, hx9, h⟩ := bnd h
   refine gt rfl <| a1 (v := (.c (.val (.int .u8 (c_4.toNat : Int))))) (s_idxS rfl rfl hx9) <| gt rfl <| a1 rfl ?_
   obtain ⟨c_5, hx10, h⟩ := bnd h
   refine gt rfl <| a1 (v := (.c (.val (.int .u8 (c_5.toNat : Int))))) (s_idxS rfl rfl hx10) <| gt rfl <| a1 (v := (B (decide ((c_4.toNat : Int) = (c_5.toNat : Int))))) rfl <| un1 (v := (B (decide ((c_4.toNat : Int) = (c_5.toNat : Int))))) rfl <| dnil ?_
   exact Sv.weak (wcn [0] rfl (.cf rfl rfl (.cf rfl rfl (.cf rfl rfl (.cr rfl rfl rfl (.cf rfl rfl .nil))))) (.box (by decide) rfl (blkAs_cells (.sm rfl (.sm rfl (.sm rfl (.sm rfl .nil))))) .nil)) (Z82 h)
  ·repeat (first | refine gu rfl ?_ | refine gs rfl rfl ?_)
   refine un1 (v := (B false)) rfl <| dnil ?_
   exact Sv.weak (wcn [0] rfl (.cf rfl rfl (.cf rfl rfl (.cf rfl rfl (.cr rfl rfl rfl (.cf rfl rfl .nil))))) (.box (by decide) rfl (blkAs_cells (.sm rfl (.sm rfl (.sm rfl (.sm rfl .nil))))) .nil)) (Z82 h)
def a59 : AFunc := ⟨1, [(.tmp 2)], (sr [(oP 2 (.mov kF))]
 (sr [(mV 3 0), (oP 4 (.bin .geq (.tmp 3) (.const (.c (.val (.int .u8 48)))))), (mV 5 4), ⟨(some 6), (.mov (.tmp 0)), (some (5, true))⟩, ⟨(some 7), (.bin .leq (.tmp 6) (.const (.c (.val (.int .u8 57))))), (some (5, true))⟩, (oP 8 (.pick (.tmp 5) (.tmp 7) kF)), (mV 2 8)]
 .ret))⟩
theorem c59 : compFunc Tryz.prog 59 = some a59 := by kernel_rfl
def Zcc (r : Bool) : AV → Heap → Nat → Prop := fun v h' n' => v = (B r) ∧ (h' = e0) ∧ n' = 0
/-- clerestory/clerestoryref2.digit -/
def Z2 (c_ : Int) : Bool :=
 ((decide (48 ≤ c_)) && (decide (c_ ≤ 57)))
theorem Z4g {mL : Int} (c_ : Int) : CPure Tryz.prog (GG mL) 59 [(.c (.val (.int .u8 c_)))] (B (Z2 c_)) := by
 generalize h : Z2 c_ = o
 refine acalls_of_sv hmix c59 (R := Zcc o) ?_
 unfold Z2 at h
 refine ssr <| un1 rfl <| dnil <| ssr <| un1 rfl <| un1 (v := (B (decide (48 ≤ c_)))) rfl <| un1 rfl ?_
 refine gjoin 3 (d := 8) (v := (B ((decide (48 ≤ c_)) && (decide (c_ ≤ 57))))) (fun X hX => ?_) ?_
 ·refine split2 (fun hc1 => ?_) (fun hc1 => ?_)
  ·refine gt rfl <| a1 rfl <| gt rfl <| a1 (v := (B (decide (c_ ≤ 57)))) rfl <| un1 (v := (B (decide (c_ ≤ 57)))) rfl <| dnil ?_
   exact hX _ (.putEq (by rw [hc1]; rfl) (.skp (.skp (.putEq (by rw [hc1]) (.refl _)) rfl) rfl))
  ·refine gs rfl rfl <| gs rfl rfl <| un1 (v := (B false)) rfl <| dnil ?_
   exact hX _ (.putEq (by rw [hc1]; rfl) (.skp (.skp (.putEq (by rw [hc1]) (.refl _)) rfl) rfl))
 refine un1 rfl <| dnil <| Sv.ret ?_
 subst h
 exact ⟨_, .refl _, _, rfl, ⟨upd e0 0 (some (B ((decide (48 ≤ c_)) && (decide (c_ ≤ 57))))), e0, 0⟩, (B ((decide (48 ≤ c_)) && (decide (c_ ≤ 57)))), weak_canon [] rfl ndl nll nlz (.cf rfl rfl .nil) .nil, rfl, rfl, rfl, rfl⟩
def a164_c0 : ACode := (.cond (.tmp 16) (.region [(oP 4 (.mov (kI 1)))]) .skip)
def a164_c2 : ACode := (.cond (.tmp 27) .skip (.exit 0))
def a164_c3 : ACode := (.block 1 (sr [(mV 28 6), (oP 29 (.bin .mul (kI 10) (.tmp 28))), (mV 30 0), (mV 31 4), (oP 32 (.idxS (.tmp 30) (.tmp 31))), (oP 33 (.bin .sub (.tmp 32) (.const (.c (.val (.int .u8 48)))))), (oP 34 (.conv .i64 (.tmp 33))), (oP 35 (.bin .add (.tmp 29) (.tmp 34))), (oP 36 (.mm false [(.tmp 35), (kI 1000000000)])), (mV 6 36)]
 (.region [(mV 37 4), (oP 38 (.bin .add (.tmp 37) (kI 1))), (mV 4 38)])))
def a164_c4 : ACode := (.seq (sr [(mV 18 4), (mV 19 0), (oP 20 (.lenS (.tmp 19))), (oP 21 (.bin .lss (.tmp 18) (.tmp 20))), (mV 22 21), ⟨(some 23), (.mov (.tmp 0)), (some (22, true))⟩, ⟨(some 24), (.mov (.tmp 4)), (some (22, true))⟩, ⟨(some 25), (.idxS (.tmp 23) (.tmp 24)), (some (22, true))⟩, ⟨(some 26), (.call 59 [(.tmp 25)]), (some (22, true))⟩, (oP 27 (.pick (.tmp 22) (.tmp 26) kF))]
 a164_c2)
 a164_c3)
def a164_c6 : ACode := (.cond (.tmp 74) .skip (.exit 2))
def a164_c7 : ACode := (.block 3 (sr [(mV 75 6), (mV 76 8), (mV 77 0), (mV 78 4), (oP 79 (.idxS (.tmp 77) (.tmp 78))), (oP 80 (.bin .sub (.tmp 79) (.const (.c (.val (.int .u8 48)))))), (oP 81 (.conv .i64 (.tmp 80))), (oP 82 (.bin .mul (.tmp 76) (.tmp 81))), (oP 83 (.bin .add (.tmp 75) (.tmp 82))), (oP 84 (.mm false [(.tmp 83), (kI 1000000000)])), (mV 6 84)]
 (sr [(mV 85 8), (oP 86 (.bin .quo (.tmp 85) (kI 10))), (mV 8 86)]
 (sr [(mV 87 7), (oP 88 (.bin .add (.tmp 87) (kI 1))), (mV 7 88)]
 (.region [(mV 89 4), (oP 90 (.bin .add (.tmp 89) (kI 1))), (mV 4 90)])))))
def a164_c8 : ACode := (.seq (sr [(mV 65 4), (mV 66 0), (oP 67 (.lenS (.tmp 66))), (oP 68 (.bin .lss (.tmp 65) (.tmp 67))), (mV 69 68), ⟨(some 70), (.mov (.tmp 0)), (some (69, true))⟩, ⟨(some 71), (.mov (.tmp 4)), (some (69, true))⟩, ⟨(some 72), (.idxS (.tmp 70) (.tmp 71)), (some (69, true))⟩, ⟨(some 73), (.call 59 [(.tmp 72)]), (some (69, true))⟩, (oP 74 (.pick (.tmp 69) (.tmp 73) kF))]
 a164_c6)
 a164_c7)
def a164_c5 : ACode := (.cond (.tmp 62) (sr [(mV 63 4), (oP 64 (.bin .add (.tmp 63) (kI 1))), (mV 4 64)]
 (sr [(oP 8 (.mov (kI 100)))]
 (.block 2 (.loop a164_c8)))) .skip)
def a164_c10 : ACode := (sr [(mV 98 6), (mV 99 4), (mV 2 98), (mV 3 99)]
 .ret)
def a164_c9 : ACode := (.seq (sr [(mV 91 7), (oP 92 (.bin .eql (.tmp 91) (kI 0)))]
 (.cond (.tmp 92) (sr [(oP 2 (.mov (kI 0))), (oP 3 (.mov (kI 0)))]
 .ret) .skip))
 (.seq (sr [(mV 93 0), (oP 94 (.idxS (.tmp 93) (kI 0))), (oP 95 (.bin .eql (.tmp 94) (.const (.c (.val (.int .u8 45))))))]
 (.cond (.tmp 95) (.region [(mV 96 6), (oP 97 (.bin .sub (kI 0) (.tmp 96))), (mV 6 97)]) .skip))
 a164_c10))
def a164_c1 : ACode := (sr [(mV 17 4), (mV 5 17)]
 (sr [(oP 6 (.mov (kI 0)))]
 (.seq (.block 0 (.loop a164_c4))
 (sr [(mV 39 4), (mV 40 5), (oP 41 (.bin .sub (.tmp 39) (.tmp 40))), (mV 7 41)]
 (sr [(mV 42 6), (oP 43 (.bin .mul (kI 1000) (.tmp 42))), (oP 44 (.mm false [(.tmp 43), (kI 1000000000)])), (mV 6 44)]
 (.seq (sr [(mV 45 0), (mV 46 4), (oP 47 (.call 161 [(.tmp 45), (.tmp 46)])), (oP 48 (.bin .eql (.tmp 47) (.const (.c (.val (.int .u8 46)))))), (mV 49 48), ⟨(some 50), (.mov (.tmp 4)), (some (49, true))⟩, ⟨(some 51), (.bin .add (.tmp 50) (kI 1)), (some (49, true))⟩, ⟨(some 52), (.mov (.tmp 0)), (some (49, true))⟩, ⟨(some 53), (.lenS (.tmp 52)), (some (49, true))⟩, ⟨(some 54), (.bin .lss (.tmp 51) (.tmp 53)), (some (49, true))⟩, (oP 55 (.pick (.tmp 49) (.tmp 54) kF)), (mV 56 55), ⟨(some 57), (.mov (.tmp 0)), (some (56, true))⟩, ⟨(some 58), (.mov (.tmp 4)), (some (56, true))⟩, ⟨(some 59), (.bin .add (.tmp 58) (kI 1)), (some (56, true))⟩, ⟨(some 60), (.idxS (.tmp 57) (.tmp 59)), (some (56, true))⟩, ⟨(some 61), (.call 59 [(.tmp 60)]), (some (56, true))⟩, (oP 62 (.pick (.tmp 56) (.tmp 61) kF))]
 a164_c5)
 a164_c9))))))
def a164 : AFunc := ⟨1, [(.tmp 2), (.tmp 3)], (sr [(oP 2 (.mov (kI 0))), (oP 3 (.mov (kI 0)))]
 (sr [(oP 4 (.mov (kI 0)))]
 (.seq (sr [(mV 9 0), (oP 10 (.call 161 [(.tmp 9), (kI 0)])), (oP 11 (.bin .eql (.tmp 10) (.const (.c (.val (.int .u8 43)))))), (mV 12 11), ⟨(some 13), (.mov (.tmp 0)), (some (12, false))⟩, ⟨(some 14), (.call 161 [(.tmp 13), (kI 0)]), (some (12, false))⟩, ⟨(some 15), (.bin .eql (.tmp 14) (.const (.c (.val (.int .u8 45))))), (some (12, false))⟩, (oP 16 (.pick (.tmp 12) kT (.tmp 15)))]
 a164_c0)
 a164_c1)))⟩
theorem c164 : compFunc Tryz.prog 164 = some a164 := by kernel_rfl
def Ze (r : (Int × Int)) : AV → Heap → Nat → Prop := fun v h' n' => v = (.tup [(I r.1), (I r.2)]) ∧ (h' = e0) ∧ n' = 0
abbrev Zcd (mL : Int) (Q : AExit → St → Prop) : AExit → St → Prop := AThen (Sv Tryz.prog (GG mL) 0 a164_c3 Q) Q
abbrev Z83 (s_ : Tx) (i_ : Int) (F_ : Int → Int → Option (Int × Int)) (o : (Int × Int)) (R_ : St → Prop) : Prop := ∀ (i_1 : Int) (n_ : Int), F_ i_1 n_ = some o → ∀ s, Weak 0 s ⟨(ue [(6, (I n_)), (5, (I i_)), (4, (I i_1)), (0, (S s_))]), e0, 0⟩ → R_ s
abbrev Z84 (s_ : Tx) (i_ : Int) (F_ : Int → Int → Option (Int × Int)) (o : (Int × Int)) (R_ : St → Prop) : Prop := ∀ (i_2 : Int) (n_1 : Int), F_ i_2 n_1 = some o → ∀ s, Weak 0 s ⟨(ue [(6, (I n_1)), (5, (I i_)), (4, (I i_2)), (0, (S s_))]), e0, 0⟩ → R_ s
noncomputable def Z3k (s_ : Tx) (i_1 : Int) (n_ : Int) (i_ : Int) (self : Int → Int → Option (Int × Int)) (K0_ : Int → Int → Option (Int × Int)) (v27 : Bool) : Option (Int × Int) :=
 if v27 then
  (at? s_ i_1).bind fun c_ =>
  self (wi (i_1 + 1)) (mn (wi ((wi (10 * n_)) + (wr .i64 (wr .u8 ((c_.toNat : Int) - 48))))) 1000000000)
 else
  K0_ i_1 n_
theorem Z85 {mL : Int} {Q : AExit → St → Prop} {s_ : Tx} {i_1 : Int} {n_ : Int} {i_ : Int} {self : Int → Int → Option (Int × Int)} {K0_ : Int → Int → Option (Int × Int)} {v27 : Bool} {o : (Int × Int)} (h : Z3k s_ i_1 n_ i_ self K0_ v27 = some o)
  (hself : Z83 s_ i_ self o (Q .normal))
  (hK0 : Z84 s_ i_ K0_ o (Q (.exit 0)))
  (hr : ∀ s, Ends a164.results 0 (Ze o) .ret s → Q .ret s) :
  Sv Tryz.prog (GG mL) 0 a164_c2 (Zcd mL Q) ⟨(ue [(27, (B v27)), (6, (I n_)), (5, (I i_)), (4, (I i_1)), (0, (S s_))]), e0, 0⟩ := by
 unfold Z3k at h
 refine Sv.cnd rfl h (fun h => ?_) fun h => ?_
 ·refine Sv.skip <| Sv.block <| ssr <| un1 rfl <| un1 (v := (I (wi (10 * n_)))) rfl <| un1 rfl <| un1 rfl ?_
  obtain ⟨c_, hx1, h⟩ := bnd h
  refine un1 (v := (.c (.val (.int .u8 (c_.toNat : Int))))) (s_idxS rfl rfl hx1) <| un1 (v := (.c (.val (.int .u8 (wr .u8 ((c_.toNat : Int) - 48)))))) rfl <| un1 (v := (I (wr .i64 (wr .u8 ((c_.toNat : Int) - 48))))) rfl <| un1 (v := (I (wi ((wi (10 * n_)) + (wr .i64 (wr .u8 ((c_.toNat : Int) - 48))))))) rfl <| un1 (v := (I (mn (wi ((wi (10 * n_)) + (wr .i64 (wr .u8 ((c_.toNat : Int) - 48))))) 1000000000))) (s_mn rfl rfl) <| un1 rfl <| dnil <| srg <| un1 rfl <| un1 (v := (I (wi (i_1 + 1)))) rfl <| un1 rfl <| dnil ?_
  exact hself (wi (i_1 + 1)) (mn (wi ((wi (10 * n_)) + (wr .i64 (wr .u8 ((c_.toNat : Int) - 48))))) 1000000000) h _ (wcn [] rfl (.cf rfl rfl (.cf rfl rfl (.cf rfl rfl (.cf rfl rfl .nil)))) .nil)
 ·refine Sv.exit ?_
  exact hK0 i_1 n_ h _ (wcn [] rfl (.cf rfl rfl (.cf rfl rfl (.cf rfl rfl (.cf rfl rfl .nil)))) .nil)
abbrev Z86 (s_ : Tx) (i_ : Int) (F_ : Nat → Int → Int → Option (Int × Int)) (o : (Int × Int)) : Nat → St → Prop := fun k s => ∃ (i_1 : Int), ∃ (n_ : Int), F_ k i_1 n_ = some o ∧ s = ⟨(ue [(6, (I n_)), (5, (I i_)), (4, (I i_1)), (0, (S s_))]), e0, 0⟩
noncomputable def Zm (s_ : Tx) (i_ : Int) (K0_ : Int → Int → Option (Int × Int)) : Nat → Int → Int → Option (Int × Int)
 | 0, _, _ => none
 | k + 1, i_1, n_ =>
  if decide (i_1 < (s_.length : Int)) then
   (at? s_ i_1).bind fun c_1 =>
   Z3k s_ i_1 n_ i_ (Zm s_ i_ K0_ k) K0_ (Z2 (c_1.toNat : Int))
  else
   Z3k s_ i_1 n_ i_ (Zm s_ i_ K0_ k) K0_ false
theorem Zce {mL : Int} {Q : AExit → St → Prop} {s_ : Tx} {i_ : Int} {K0_ : Int → Int → Option (Int × Int)} {k : Nat} {i_1 : Int} {n_ : Int} {o : (Int × Int)} (h : Zm s_ i_ K0_ k i_1 n_ = some o)
  (hK0 : Z84 s_ i_ K0_ o (Q (.exit 0)))
  (hr : ∀ s, Ends a164.results 0 (Ze o) .ret s → Q .ret s) :
  Sv Tryz.prog (GG mL) 0 (.loop a164_c4) Q ⟨(ue [(6, (I n_)), (5, (I i_)), (4, (I i_1)), (0, (S s_))]), e0, 0⟩ := by
 refine Sv.loop (I := Z86 s_ i_ (Zm s_ i_ K0_) o) (fun k s hI => ?_) ⟨i_1, n_, h, rfl⟩
 clear h
 clear n_ i_1
 obtain ⟨i_1, n_, h, rfl⟩ := hI
 cases k with
 | zero => cases h
 | succ k =>
 rw [Zm] at h
 have hself : Z83 s_ i_ (Zm s_ i_ K0_ k) o (rnd 0 (Z86 s_ i_ (Zm s_ i_ K0_) o) k Q) := fun i_1 n_ h s hw => ⟨_, k, hw, Nat.lt_succ_self k, i_1, n_, h, rfl⟩
 refine Sv.seq <| ssr <| un1 rfl <| un1 rfl <| un1 (v := (I (s_.length : Int))) rfl <| un1 (v := (B (decide (i_1 < (s_.length : Int))))) rfl <| un1 rfl ?_
 refine spl h (fun h => ?_) fun h => ?_
 ·refine gt rfl <| a1 rfl <| gt rfl <| a1 rfl ?_
  obtain ⟨c_1, hx2, h⟩ := bnd h
  refine gt rfl <| a1 (v := (.c (.val (.int .u8 (c_1.toNat : Int))))) (s_idxS rfl rfl hx2) <| gt rfl <| ac_pure (Z4g (mL := mL) (c_1.toNat : Int)) rfl rfl rfl <| un1 (v := (B (Z2 (c_1.toNat : Int)))) rfl <| dnil ?_
  exact Sv.weak (wcn [] rfl (.cf rfl rfl (.cf rfl rfl (.cf rfl rfl (.cf rfl rfl (.cf rfl rfl .nil))))) .nil) (Z85 h hself hK0 hr)
 ·refine gs rfl rfl <| gs rfl rfl <| gs rfl rfl <| gs rfl rfl <| un1 (v := (B false)) rfl <| dnil ?_
  exact Sv.weak (wcn [] rfl (.cf rfl rfl (.cf rfl rfl (.cf rfl rfl (.cf rfl rfl (.cf rfl rfl .nil))))) .nil) (Z85 h hself hK0 hr)
noncomputable def Z3l (i_3 : Int) (n_3 : Int) : Option (Int × Int) :=
 some (n_3, i_3)
theorem Z87 {mL : Int} {i_3 : Int} {n_3 : Int} {o : (Int × Int)} (h : Z3l i_3 n_3 = some o) :
  Sv Tryz.prog (GG mL) 0 a164_c10 (Ends a164.results 0 (Ze o)) ⟨(ue [(6, (I n_3)), (4, (I i_3))]), e0, 0⟩ := by
 unfold Z3l at h
 refine ssr <| un1 rfl <| un1 rfl <| un1 rfl <| un1 rfl <| dnil <| Sv.ret ?_
 exact rt0 h rfl rfl ⟨rfl, rfl, rfl⟩
noncomputable def Z2o (s_ : Tx) (i_3 : Int) (n_2 : Int) (many : Int) : Option (Int × Int) :=
 if decide (many = 0) then
  some (0, 0)
 else
  (at? s_ 0).bind fun c_2 =>
  if decide ((c_2.toNat : Int) = 45) then
   Z3l i_3 (wi (0 - n_2))
  else
   Z3l i_3 n_2
theorem Z88 {mL : Int} {s_ : Tx} {i_3 : Int} {n_2 : Int} {many : Int} {o : (Int × Int)} (h : Z2o s_ i_3 n_2 many = some o) :
  Sv Tryz.prog (GG mL) 0 a164_c9 (Ends a164.results 0 (Ze o)) ⟨(ue [(7, (I many)), (6, (I n_2)), (4, (I i_3)), (0, (S s_))]), e0, 0⟩ := by
 unfold Z2o at h
 refine Sv.seq <| ssr <| un1 rfl <| un1 (v := (B (decide (many = 0)))) rfl <| dnil ?_
 refine Sv.cnd rfl h (fun h => ?_) fun h => ?_
 ·refine ssr <| un1 rfl <| un1 rfl <| dnil <| Sv.ret ?_
  exact rt0 h rfl rfl ⟨rfl, rfl, rfl⟩
 ·refine Sv.skip <| Sv.seq <| ssr <| un1 rfl ?_
  obtain ⟨c_2, hx3, h⟩ := bnd h
  refine un1 (v := (.c (.val (.int .u8 (c_2.toNat : Int))))) (s_idxS rfl rfl hx3) <| un1 (v := (B (decide ((c_2.toNat : Int) = 45)))) rfl <| dnil ?_
  refine Sv.cnd rfl h (fun h => ?_) fun h => ?_
  ·refine srg <| un1 rfl <| un1 (v := (I (wi (0 - n_2)))) rfl <| un1 rfl <| dnil ?_
   exact Sv.weak (wcn [] rfl (.cf rfl rfl (.cf rfl rfl .nil)) .nil) (Z87 h)
  ·refine Sv.skip ?_
   exact Sv.weak (wcn [] rfl (.cf rfl rfl (.cf rfl rfl .nil)) .nil) (Z87 h)
abbrev Zcf (mL : Int) (Q : AExit → St → Prop) : AExit → St → Prop := AThen (Sv Tryz.prog (GG mL) 0 a164_c7 Q) Q
abbrev Z89 (s_ : Tx) (F_ : Int → Int → Int → Int → Option (Int × Int)) (o : (Int × Int)) (R_ : St → Prop) : Prop := ∀ (i_4 : Int) (n_4 : Int) (many1 : Int) (unit : Int), F_ i_4 n_4 many1 unit = some o → ∀ s, Weak 0 s ⟨(ue [(8, (I unit)), (7, (I many1)), (6, (I n_4)), (4, (I i_4)), (0, (S s_))]), e0, 0⟩ → R_ s
abbrev Z8a (s_ : Tx) (F_ : Int → Int → Int → Option (Int × Int)) (o : (Int × Int)) (R_ : St → Prop) : Prop := ∀ (i_5 : Int) (n_5 : Int) (many2 : Int), F_ i_5 n_5 many2 = some o → ∀ s, Weak 0 s ⟨(ue [(7, (I many2)), (6, (I n_5)), (4, (I i_5)), (0, (S s_))]), e0, 0⟩ → R_ s
noncomputable def Z3m (s_ : Tx) (i_4 : Int) (n_4 : Int) (unit : Int) (many1 : Int) (self : Int → Int → Int → Int → Option (Int × Int)) (K2_ : Int → Int → Int → Option (Int × Int)) (v74 : Bool) : Option (Int × Int) :=
 if v74 then
  (at? s_ i_4).bind fun c_3 =>
  self (wi (i_4 + 1)) (mn (wi (n_4 + (wi (unit * (wr .i64 (wr .u8 ((c_3.toNat : Int) - 48))))))) 1000000000) (wi (many1 + 1)) (wi (unit.tdiv 10))
 else
  K2_ i_4 n_4 many1
theorem Z8b {mL : Int} {Q : AExit → St → Prop} {s_ : Tx} {i_4 : Int} {n_4 : Int} {unit : Int} {many1 : Int} {self : Int → Int → Int → Int → Option (Int × Int)} {K2_ : Int → Int → Int → Option (Int × Int)} {v74 : Bool} {o : (Int × Int)} (h : Z3m s_ i_4 n_4 unit many1 self K2_ v74 = some o)
  (hself : Z89 s_ self o (Q .normal))
  (hK2 : Z8a s_ K2_ o (Q (.exit 2)))
  (hr : ∀ s, Ends a164.results 0 (Ze o) .ret s → Q .ret s) :
  Sv Tryz.prog (GG mL) 0 a164_c6 (Zcf mL Q) ⟨(ue [(74, (B v74)), (8, (I unit)), (7, (I many1)), (6, (I n_4)), (4, (I i_4)), (0, (S s_))]), e0, 0⟩ := by
 unfold Z3m at h
 refine Sv.cnd rfl h (fun h => ?_) fun h => ?_
 ·refine Sv.skip <| Sv.block <| ssr <| un1 rfl <| un1 rfl <| un1 rfl <| un1 rfl ?_
  obtain ⟨c_3, hx4, h⟩ := bnd h
  refine un1 (v := (.c (.val (.int .u8 (c_3.toNat : Int))))) (s_idxS rfl rfl hx4) <| un1 (v := (.c (.val (.int .u8 (wr .u8 ((c_3.toNat : Int) - 48)))))) rfl <| un1 (v := (I (wr .i64 (wr .u8 ((c_3.toNat : Int) - 48))))) rfl <| un1 (v := (I (wi (unit * (wr .i64 (wr .u8 ((c_3.toNat : Int) - 48))))))) rfl <| un1 (v := (I (wi (n_4 + (wi (unit * (wr .i64 (wr .u8 ((c_3.toNat : Int) - 48))))))))) rfl <| un1 (v := (I (mn (wi (n_4 + (wi (unit * (wr .i64 (wr .u8 ((c_3.toNat : Int) - 48))))))) 1000000000))) (s_mn rfl rfl) <| un1 rfl <| dnil <| ssr <| un1 rfl <| un1 (v := (I (wi (unit.tdiv 10)))) rfl <| un1 rfl <| dnil <| ssr <| un1 rfl <| un1 (v := (I (wi (many1 + 1)))) rfl <| un1 rfl <| dnil <| srg <| un1 rfl <| un1 (v := (I (wi (i_4 + 1)))) rfl <| un1 rfl <| dnil ?_
  exact hself (wi (i_4 + 1)) (mn (wi (n_4 + (wi (unit * (wr .i64 (wr .u8 ((c_3.toNat : Int) - 48))))))) 1000000000) (wi (many1 + 1)) (wi (unit.tdiv 10)) h _ (wcn [] rfl (.cf rfl rfl (.cf rfl rfl (.cf rfl rfl (.cf rfl rfl (.cf rfl rfl .nil))))) .nil)
 ·refine Sv.exit ?_
  exact hK2 i_4 n_4 many1 h _ (wcn [] rfl (.cf rfl rfl (.cf rfl rfl (.cf rfl rfl (.cf rfl rfl .nil)))) .nil)
abbrev Z8c (s_ : Tx) (F_ : Nat → Int → Int → Int → Int → Option (Int × Int)) (o : (Int × Int)) : Nat → St → Prop := fun k s => ∃ (i_4 : Int), ∃ (n_4 : Int), ∃ (many1 : Int), ∃ (unit : Int), F_ k i_4 n_4 many1 unit = some o ∧ s = ⟨(ue [(8, (I unit)), (7, (I many1)), (6, (I n_4)), (4, (I i_4)), (0, (S s_))]), e0, 0⟩
noncomputable def Zn (s_ : Tx) (K2_ : Int → Int → Int → Option (Int × Int)) : Nat → Int → Int → Int → Int → Option (Int × Int)
 | 0, _, _, _, _ => none
 | k + 1, i_4, n_4, many1, unit =>
  if decide (i_4 < (s_.length : Int)) then
   (at? s_ i_4).bind fun c_4 =>
   Z3m s_ i_4 n_4 unit many1 (Zn s_ K2_ k) K2_ (Z2 (c_4.toNat : Int))
  else
   Z3m s_ i_4 n_4 unit many1 (Zn s_ K2_ k) K2_ false
theorem Zcg {mL : Int} {Q : AExit → St → Prop} {s_ : Tx} {K2_ : Int → Int → Int → Option (Int × Int)} {k : Nat} {i_4 : Int} {n_4 : Int} {many1 : Int} {unit : Int} {o : (Int × Int)} (h : Zn s_ K2_ k i_4 n_4 many1 unit = some o)
  (hK2 : Z8a s_ K2_ o (Q (.exit 2)))
  (hr : ∀ s, Ends a164.results 0 (Ze o) .ret s → Q .ret s) :
  Sv Tryz.prog (GG mL) 0 (.loop a164_c8) Q ⟨(ue [(8, (I unit)), (7, (I many1)), (6, (I n_4)), (4, (I i_4)), (0, (S s_))]), e0, 0⟩ := by
 refine Sv.loop (I := Z8c s_ (Zn s_ K2_) o) (fun k s hI => ?_) ⟨i_4, n_4, many1, unit, h, rfl⟩
 clear h
 clear unit many1 n_4 i_4
 obtain ⟨i_4, n_4, many1, unit, h, rfl⟩ := hI
 cases k with
 | zero => cases h
 | succ k =>
 rw [Zn] at h
 have hself : Z89 s_ (Zn s_ K2_ k) o (rnd 0 (Z8c s_ (Zn s_ K2_) o) k Q) := fun i_4 n_4 many1 unit h s hw => ⟨_, k, hw, Nat.lt_succ_self k, i_4, n_4, many1, unit, h, rfl⟩
 refine Sv.seq <| ssr <| un1 rfl <| un1 rfl <| un1 (v := (I (s_.length : Int))) rfl <| un1 (v := (B (decide (i_4 < (s_.length : Int))))) rfl <| un1 rfl ?_
 refine spl h (fun h => ?_) fun h => ?_
 ·refine gt rfl <| a1 rfl <| gt rfl <| a1 rfl ?_
  obtain ⟨c_4, hx5, h⟩ := bnd h
  refine gt rfl <| a1 (v := (.c (.val (.int .u8 (c_4.toNat : Int))))) (s_idxS rfl rfl hx5) <| gt rfl <| ac_pure (Z4g (mL := mL) (c_4.toNat : Int)) rfl rfl rfl <| un1 (v := (B (Z2 (c_4.toNat : Int)))) rfl <| dnil ?_
  exact Sv.weak (wcn [] rfl (.cf rfl rfl (.cf rfl rfl (.cf rfl rfl (.cf rfl rfl (.cf rfl rfl (.cf rfl rfl .nil)))))) .nil) (Z8b h hself hK2 hr)
 ·refine gs rfl rfl <| gs rfl rfl <| gs rfl rfl <| gs rfl rfl <| un1 (v := (B false)) rfl <| dnil ?_
  exact Sv.weak (wcn [] rfl (.cf rfl rfl (.cf rfl rfl (.cf rfl rfl (.cf rfl rfl (.cf rfl rfl (.cf rfl rfl .nil)))))) .nil) (Z8b h hself hK2 hr)
abbrev Zch (mL : Int) (o : (Int × Int)) : AExit → St → Prop := AThen (Sv Tryz.prog (GG mL) 0 a164_c9 (Ends a164.results 0 (Ze o))) (Ends a164.results 0 (Ze o))
noncomputable def Z2p (s_ : Tx) (i_2 : Int) (n_1 : Int) (i_ : Int) (v62 : Bool) : Option (Int × Int) :=
 if v62 then
  lim fun kk => Zn s_ (fun (i_5 : Int) (n_5 : Int) (many2 : Int) => 
    Z2o s_ i_5 n_5 many2) kk (wi (i_2 + 1)) (mn (wi (1000 * n_1)) 1000000000) (wi (i_2 - i_)) 100
 else
  Z2o s_ i_2 (mn (wi (1000 * n_1)) 1000000000) (wi (i_2 - i_))
theorem Z8d {mL : Int} {s_ : Tx} {i_2 : Int} {n_1 : Int} {i_ : Int} {v62 : Bool} {o : (Int × Int)} (h : Z2p s_ i_2 n_1 i_ v62 = some o) :
  Sv Tryz.prog (GG mL) 0 a164_c5 (Zch mL o) ⟨(ue [(62, (B v62)), (7, (I (wi (i_2 - i_)))), (6, (I (mn (wi (1000 * n_1)) 1000000000))), (4, (I i_2)), (0, (S s_))]), e0, 0⟩ := by
 unfold Z2p at h
 refine Sv.cnd rfl h (fun h => ?_) fun h => ?_
 ·refine ssr <| un1 rfl <| un1 (v := (I (wi (i_2 + 1)))) rfl <| un1 rfl <| dnil <| ssr <| un1 rfl <| dnil <| Sv.block ?_
  obtain ⟨kk, h⟩ := lim_some h
  refine Sv.weak (wcn [] rfl (.cf rfl rfl (.cf rfl rfl (.cf rfl rfl (.cf rfl rfl (.cf rfl rfl .nil))))) .nil) (Zcg h ?_ (fun s hs => hs))
  ·intro i_5 n_5 many2 h _ hw2
   exact Sv.weak (hw2.trans (wcn [] rfl (.cf rfl rfl (.cf rfl rfl (.cf rfl rfl (.cf rfl rfl .nil)))) .nil)) (Z88 h)
 ·refine Sv.skip ?_
  exact Sv.weak (wcn [] rfl (.cf rfl rfl (.cf rfl rfl (.cf rfl rfl (.cf rfl rfl .nil)))) .nil) (Z88 h)
noncomputable def Z2q (s_ : Tx) (i_ : Int) : Option (Int × Int) :=
 lim fun kk1 => Zm s_ i_ (fun (i_2 : Int) (n_1 : Int) => 
   (Z6 s_ i_2).bind fun r_ =>
   if ((decide (r_ = 46)) && (decide ((wi (i_2 + 1)) < (s_.length : Int)))) then
    (at? s_ (wi (i_2 + 1))).bind fun c_5 =>
    Z2p s_ i_2 n_1 i_ (Z2 (c_5.toNat : Int))
   else
    Z2p s_ i_2 n_1 i_ false) kk1 i_ 0
theorem Z8e {mL : Int} {s_ : Tx} {i_ : Int} {o : (Int × Int)} (h : Z2q s_ i_ = some o) :
  Sv Tryz.prog (GG mL) 0 a164_c1 (Ends a164.results 0 (Ze o)) ⟨(ue [(4, (I i_)), (0, (S s_))]), e0, 0⟩ := by
 unfold Z2q at h
 refine ssr <| un1 rfl <| un1 rfl <| dnil <| ssr <| un1 rfl <| dnil <| Sv.seq <| Sv.block ?_
 obtain ⟨kk1, h⟩ := lim_some h
 refine Sv.weak (wcn [] rfl (.cf rfl rfl (.cf rfl rfl (.cf rfl rfl (.cf rfl rfl .nil)))) .nil) (Zce h ?_ (fun s hs => hs))
 ·intro i_2 n_1 h _ hw1
  refine Sv.weak hw1 <| ssr <| un1 rfl <| un1 rfl <| un1 (v := (I (wi (i_2 - i_)))) rfl <| un1 rfl <| dnil <| ssr <| un1 rfl <| un1 (v := (I (wi (1000 * n_1)))) rfl <| un1 (v := (I (mn (wi (1000 * n_1)) 1000000000))) (s_mn rfl rfl) <| un1 rfl <| dnil <| Sv.seq <| ssr <| un1 rfl <| un1 rfl ?_
  obtain ⟨r_, hr1, h⟩ := bnd h
  refine un <| ac_pure (Z18 hr1) rfl rfl rfl <| un1 (v := (B (decide (r_ = 46)))) rfl <| un1 rfl ?_
  refine gjoin 6 (d := 55) (v := (B ((decide (r_ = 46)) && (decide ((wi (i_2 + 1)) < (s_.length : Int)))))) (fun X hX => ?_) ?_
  ·refine split2 (fun hc8 => ?_) (fun hc8 => ?_)
   ·refine gt rfl <| a1 rfl <| gt rfl <| a1 (v := (I (wi (i_2 + 1)))) rfl <| gt rfl <| a1 rfl <| gt rfl <| a1 (v := (I (s_.length : Int))) rfl <| gt rfl <| a1 (v := (B (decide ((wi (i_2 + 1)) < (s_.length : Int))))) rfl <| un1 (v := (B (decide ((wi (i_2 + 1)) < (s_.length : Int))))) rfl <| dnil ?_
    exact hX _ (.putEq (by rw [hc8]; rfl) (by repeat (first | exact .putEq (by rw [hc8]) (.refl _) | refine .skp ?_ rfl)))
   ·repeat (first | refine gu rfl ?_ | refine gs rfl rfl ?_)
    refine un1 (v := (B false)) rfl <| dnil ?_
    exact hX _ (.putEq (by rw [hc8]; rfl) (by repeat (first | exact .putEq (by rw [hc8]) (.refl _) | refine .skp ?_ rfl)))
  refine un1 rfl ?_
  refine spl h (fun h => ?_) fun h => ?_
  ·refine gt rfl <| a1 rfl <| gt rfl <| a1 rfl <| gt rfl <| a1 (v := (I (wi (i_2 + 1)))) rfl ?_
   obtain ⟨c_5, hx6, h⟩ := bnd h
   refine gt rfl <| a1 (v := (.c (.val (.int .u8 (c_5.toNat : Int))))) (s_idxS rfl rfl hx6) <| gt rfl <| ac_pure (Z4g (mL := mL) (c_5.toNat : Int)) rfl rfl rfl <| un1 (v := (B (Z2 (c_5.toNat : Int)))) rfl <| dnil ?_
   exact Sv.weak (wcn [] rfl (.cf rfl rfl (.cf rfl rfl (.cf rfl rfl (.cf rfl rfl (.cf rfl rfl .nil))))) .nil) (Z8d h)
  ·repeat (first | refine gu rfl ?_ | refine gs rfl rfl ?_)
   refine un1 (v := (B false)) rfl <| dnil ?_
   exact Sv.weak (wcn [] rfl (.cf rfl rfl (.cf rfl rfl (.cf rfl rfl (.cf rfl rfl (.cf rfl rfl .nil))))) .nil) (Z8d h)
abbrev Zci (mL : Int) (o : (Int × Int)) : AExit → St → Prop := AThen (Sv Tryz.prog (GG mL) 0 a164_c1 (Ends a164.results 0 (Ze o))) (Ends a164.results 0 (Ze o))
noncomputable def Z3n (s_ : Tx) (v16 : Bool) : Option (Int × Int) :=
 if v16 then
  Z2q s_ 1
 else
  Z2q s_ 0
theorem Z8f {mL : Int} {s_ : Tx} {v16 : Bool} {o : (Int × Int)} (h : Z3n s_ v16 = some o) :
  Sv Tryz.prog (GG mL) 0 a164_c0 (Zci mL o) ⟨(ue [(16, (B v16)), (4, (I 0)), (0, (S s_))]), e0, 0⟩ := by
 unfold Z3n at h
 refine Sv.cnd rfl h (fun h => ?_) fun h => ?_
 ·refine srg <| un1 rfl <| dnil ?_
  exact Sv.weak (wcn [] rfl (.cf rfl rfl (.cf rfl rfl .nil)) .nil) (Z8e h)
 ·refine Sv.skip ?_
  exact Sv.weak (wcn [] rfl (.cf rfl rfl (.cf rfl rfl .nil)) .nil) (Z8e h)
/-- clerestory/clerestoryref2.NumberAt -/
noncomputable def Z3o (s_ : Tx) : Option (Int × Int) :=
 (Z6 s_ 0).bind fun r_1 =>
 if decide (r_1 = 43) then
  Z3n s_ true
 else
  (Z6 s_ 0).bind fun r_2 =>
  Z3n s_ (decide (r_2 = 45))
theorem Zcj {mL : Int} {s_ : Tx} {r : (Int × Int)} (h : Z3o s_ = some r) : CPure Tryz.prog (GG mL) 164 [(S s_)] (.tup [(I r.1), (I r.2)]) := by
 refine acalls_of_sv hmix c164 (R := Ze r) ?_
 unfold Z3o at h
 refine ssr <| un1 rfl <| un1 rfl <| dnil <| ssr <| un1 rfl <| dnil <| Sv.seq <| ssr <| un1 rfl ?_
 obtain ⟨r_1, hr2, h⟩ := bnd h
 refine un <| ac_pure (Z18 hr2) rfl rfl rfl <| un1 (v := (B (decide (r_1 = 43)))) rfl <| un1 rfl ?_
 refine spl h (fun h => ?_) fun h => ?_
 ·refine gs rfl rfl <| gs rfl rfl <| gs rfl rfl <| un1 (v := (B true)) rfl <| dnil ?_
  exact Sv.weak (wcn [] rfl (.cf rfl rfl (.cf rfl rfl (.cf rfl rfl .nil))) .nil) (Z8f h)
 ·refine gt rfl <| a1 rfl ?_
  obtain ⟨r_2, hr3, h⟩ := bnd h
  refine gt rfl <| ac_pure (Z18 hr3) rfl rfl rfl <| gt rfl <| a1 (v := (B (decide (r_2 = 45)))) rfl <| un1 (v := (B (decide (r_2 = 45)))) rfl <| dnil ?_
  exact Sv.weak (wcn [] rfl (.cf rfl rfl (.cf rfl rfl (.cf rfl rfl .nil))) .nil) (Z8f h)
def a212 : AFunc := ⟨1, [(.tmp 2)], (sr [(oP 2 (.mov kF))]
 (sr [(mV 3 0), (oP 4 (.bin .geq (.tmp 3) (.const (.c (.val (.int .u8 97)))))), (mV 5 4), ⟨(some 6), (.mov (.tmp 0)), (some (5, true))⟩, ⟨(some 7), (.bin .leq (.tmp 6) (.const (.c (.val (.int .u8 122))))), (some (5, true))⟩, (oP 8 (.pick (.tmp 5) (.tmp 7) kF)), (mV 9 8), ⟨(some 10), (.mov (.tmp 0)), (some (9, false))⟩, ⟨(some 11), (.bin .geq (.tmp 10) (.const (.c (.val (.int .u8 65))))), (some (9, false))⟩, ⟨(some 12), (.mov (.tmp 11)), (some (9, false))⟩, ⟨(some 13), (.mov (.tmp 0)), (some (12, true))⟩, ⟨(some 14), (.bin .leq (.tmp 13) (.const (.c (.val (.int .u8 90))))), (some (12, true))⟩, ⟨(some 15), (.pick (.tmp 12) (.tmp 14) kF), (some (9, false))⟩, (oP 16 (.pick (.tmp 9) kT (.tmp 15))), (mV 17 16), ⟨(some 18), (.mov (.tmp 0)), (some (17, false))⟩, ⟨(some 19), (.bin .eql (.tmp 18) (.const (.c (.val (.int .u8 95))))), (some (17, false))⟩, (oP 20 (.pick (.tmp 17) kT (.tmp 19))), (mV 21 20), ⟨(some 22), (.mov (.tmp 0)), (some (21, false))⟩, ⟨(some 23), (.bin .geq (.tmp 22) (.const (.c (.val (.int .u8 128))))), (some (21, false))⟩, (oP 24 (.pick (.tmp 21) kT (.tmp 23))), (mV 2 24)]
 .ret))⟩
theorem c212 : compFunc Tryz.prog 212 = some a212 := by kernel_rfl
def Zck (r : Bool) : AV → Heap → Nat → Prop := fun v h' n' => v = (B r) ∧ (h' = e0) ∧ n' = 0
/-- clerestory/clerestoryref2.letter -/
def Z7 (c_ : Int) : Bool :=
 (((((decide (97 ≤ c_)) && (decide (c_ ≤ 122))) || ((decide (65 ≤ c_)) && (decide (c_ ≤ 90)))) || (decide (c_ = 95))) || (decide (128 ≤ c_)))
theorem Z5i {mL : Int} (c_ : Int) : CPure Tryz.prog (GG mL) 212 [(.c (.val (.int .u8 c_)))] (B (Z7 c_)) := by
 generalize h : Z7 c_ = o
 refine acalls_of_sv hmix c212 (R := Zck o) ?_
 unfold Z7 at h
 refine ssr <| un1 rfl <| dnil <| ssr <| un1 rfl <| un1 (v := (B (decide (97 ≤ c_)))) rfl <| un1 rfl ?_
 refine gjoin 3 (d := 8) (v := (B ((decide (97 ≤ c_)) && (decide (c_ ≤ 122))))) (fun X hX => ?_) ?_
 ·refine split2 (fun hc1 => ?_) (fun hc1 => ?_)
  ·refine gt rfl <| a1 rfl <| gt rfl <| a1 (v := (B (decide (c_ ≤ 122)))) rfl <| un1 (v := (B (decide (c_ ≤ 122)))) rfl <| dnil ?_
   exact hX _ (.putEq (by rw [hc1]; rfl) (.skp (.skp (.putEq (by rw [hc1]) (.refl _)) rfl) rfl))
  ·refine gs rfl rfl <| gs rfl rfl <| un1 (v := (B false)) rfl <| dnil ?_
   exact hX _ (.putEq (by rw [hc1]; rfl) (.skp (.skp (.putEq (by rw [hc1]) (.refl _)) rfl) rfl))
 refine un1 rfl ?_
 refine gjoin 7 (d := 16) (v := (B (((decide (97 ≤ c_)) && (decide (c_ ≤ 122))) || ((decide (65 ≤ c_)) && (decide (c_ ≤ 90)))))) (fun X hX => ?_) ?_
 ·refine split2 (fun hc3 => ?_) (fun hc3 => ?_)
  ·repeat (first | refine gu rfl ?_ | refine gs rfl rfl ?_)
   refine un1 (v := (B true)) rfl <| dnil ?_
   exact hX _ (.putEq (by rw [hc3]; rfl) (by repeat (first | exact .putEq (by rw [hc3]) (.refl _) | refine .skp ?_ rfl)))
  ·refine gt rfl <| a1 rfl <| gt rfl <| a1 (v := (B (decide (65 ≤ c_)))) rfl <| gt rfl <| a1 rfl ?_
   refine gjoin 3 (d := 15) (v := (B ((decide (65 ≤ c_)) && (decide (c_ ≤ 90))))) (fun X hX => ?_) ?_
   ·refine split2 (fun hc2 => ?_) (fun hc2 => ?_)
    ·refine gt rfl <| a1 rfl <| gt rfl <| a1 (v := (B (decide (c_ ≤ 90)))) rfl <| gt rfl <| a1 (v := (B (decide (c_ ≤ 90)))) rfl <| dnil ?_
     exact hX _ (.putEq (by rw [hc2]; rfl) (.skp (.skp (.putEq (by rw [hc2]) (.refl _)) rfl) rfl))
    ·refine gs rfl rfl <| gs rfl rfl <| gt rfl <| a1 (v := (B false)) rfl <| dnil ?_
     exact hX _ (.putEq (by rw [hc2]; rfl) (.skp (.skp (.putEq (by rw [hc2]) (.refl _)) rfl) rfl))
   refine un1 (v := (B ((decide (65 ≤ c_)) && (decide (c_ ≤ 90))))) rfl <| dnil ?_
   exact hX _ (.putEq (by rw [hc3]; rfl) (.skp (.skp (.skp (.skp (.putEq (by rw [hc3]) (.refl _)) rfl) rfl) rfl) rfl))
 refine un1 rfl ?_
 refine gjoin 3 (d := 20) (v := (B ((((decide (97 ≤ c_)) && (decide (c_ ≤ 122))) || ((decide (65 ≤ c_)) && (decide (c_ ≤ 90)))) || (decide (c_ = 95))))) (fun X hX => ?_) ?_
 ·refine split2 (fun hc4 => ?_) (fun hc4 => ?_)
  ·refine gs rfl rfl <| gs rfl rfl <| un1 (v := (B true)) rfl <| dnil ?_
   exact hX _ (.putEq (by rw [hc4]; rfl) (.skp (.skp (.putEq (by rw [hc4]) (.refl _)) rfl) rfl))
  ·refine gt rfl <| a1 rfl <| gt rfl <| a1 (v := (B (decide (c_ = 95)))) rfl <| un1 (v := (B (decide (c_ = 95)))) rfl <| dnil ?_
   exact hX _ (.putEq (by rw [hc4]; rfl) (.skp (.skp (.putEq (by rw [hc4]) (.refl _)) rfl) rfl))
 refine un1 rfl ?_
 refine gjoin 3 (d := 24) (v := (B (((((decide (97 ≤ c_)) && (decide (c_ ≤ 122))) || ((decide (65 ≤ c_)) && (decide (c_ ≤ 90)))) || (decide (c_ = 95))) || (decide (128 ≤ c_))))) (fun X hX => ?_) ?_
 ·refine split2 (fun hc5 => ?_) (fun hc5 => ?_)
  ·refine gs rfl rfl <| gs rfl rfl <| un1 (v := (B true)) rfl <| dnil ?_
   exact hX _ (.putEq (by rw [hc5]; rfl) (.skp (.skp (.putEq (by rw [hc5]) (.refl _)) rfl) rfl))
  ·refine gt rfl <| a1 rfl <| gt rfl <| a1 (v := (B (decide (128 ≤ c_)))) rfl <| un1 (v := (B (decide (128 ≤ c_)))) rfl <| dnil ?_
   exact hX _ (.putEq (by rw [hc5]; rfl) (.skp (.skp (.putEq (by rw [hc5]) (.refl _)) rfl) rfl))
 refine un1 rfl <| dnil <| Sv.ret ?_
 subst h
 exact ⟨_, .refl _, _, rfl, ⟨upd e0 0 (some (B (((((decide (97 ≤ c_)) && (decide (c_ ≤ 122))) || ((decide (65 ≤ c_)) && (decide (c_ ≤ 90)))) || (decide (c_ = 95))) || (decide (128 ≤ c_))))), e0, 0⟩, (B (((((decide (97 ≤ c_)) && (decide (c_ ≤ 122))) || ((decide (65 ≤ c_)) && (decide (c_ ≤ 90)))) || (decide (c_ = 95))) || (decide (128 ≤ c_)))), weak_canon [] rfl ndl nll nlz (.cf rfl rfl .nil) .nil, rfl, rfl, rfl, rfl⟩
def a167_c0 : ACode := .ret
def a167 : AFunc := ⟨2, [(.tmp 4)], (sr [(oP 4 (.mov kF))]
 (sr [(mV 5 0), (mV 6 1), (oP 7 (.call 161 [(.tmp 5), (.tmp 6)])), (oP 8 (.bin .eql (.tmp 7) (.const (.c (.val (.int .u8 92)))))), (mV 9 8), ⟨(some 10), (.mov (.tmp 1)), (some (9, true))⟩, ⟨(some 11), (.bin .add (.tmp 10) (kI 1)), (some (9, true))⟩, ⟨(some 12), (.mov (.tmp 0)), (some (9, true))⟩, ⟨(some 13), (.lenS (.tmp 12)), (some (9, true))⟩, ⟨(some 14), (.bin .lss (.tmp 11) (.tmp 13)), (some (9, true))⟩, (oP 15 (.pick (.tmp 9) (.tmp 14) kF)), (mV 16 15), ⟨(some 17), (.mov (.tmp 0)), (some (16, true))⟩, ⟨(some 18), (.mov (.tmp 1)), (some (16, true))⟩, ⟨(some 19), (.bin .add (.tmp 18) (kI 1)), (some (16, true))⟩, ⟨(some 20), (.idxS (.tmp 17) (.tmp 19)), (some (16, true))⟩, ⟨(some 21), (.bin .neq (.tmp 20) (.const (.c (.val (.int .u8 10))))), (some (16, true))⟩, (oP 22 (.pick (.tmp 16) (.tmp 21) kF)), (mV 4 22)]
 a167_c0))⟩
theorem c167 : compFunc Tryz.prog 167 = some a167 := by kernel_rfl
def Z8g (r : Bool) : AV → Heap → Nat → Prop := fun v h' n' => v = (B r) ∧ (h' = e0) ∧ n' = 0
noncomputable def Z3p (v4 : Bool) : Option Bool :=
 some v4
theorem Z8h {mL : Int} {v4 : Bool} {o : Bool} (h : Z3p v4 = some o) :
  Sv Tryz.prog (GG mL) 0 a167_c0 (Ends a167.results 0 (Z8g o)) ⟨(upd e0 4 (some (B v4))), e0, 0⟩ := by
 unfold Z3p at h
 refine Sv.ret ?_
 exact rt0 h rfl rfl ⟨rfl, rfl, rfl⟩
/-- clerestory/clerestoryref2.escape -/
noncomputable def Z19 (s_ : Tx) (i_ : Int) : Option Bool :=
 (Z6 s_ i_).bind fun r_ =>
 if ((decide (r_ = 92)) && (decide ((wi (i_ + 1)) < (s_.length : Int)))) then
  (at? s_ (wi (i_ + 1))).bind fun c_ =>
  Z3p (!decide ((c_.toNat : Int) = 10))
 else
  Z3p false
theorem Z3q {mL : Int} {s_ : Tx} {i_ : Int} {r : Bool} (h : Z19 s_ i_ = some r) : CPure Tryz.prog (GG mL) 167 [(S s_), (I i_)] (B r) := by
 refine acalls_of_sv hmix c167 (R := Z8g r) ?_
 unfold Z19 at h
 refine ssr <| un1 rfl <| dnil <| ssr <| un1 rfl <| un1 rfl ?_
 obtain ⟨r_, hr1, h⟩ := bnd h
 refine un <| ac_pure (Z18 hr1) rfl rfl rfl <| un1 (v := (B (decide (r_ = 92)))) rfl <| un1 rfl ?_
 refine gjoin 6 (d := 15) (v := (B ((decide (r_ = 92)) && (decide ((wi (i_ + 1)) < (s_.length : Int)))))) (fun X hX => ?_) ?_
 ·refine split2 (fun hc1 => ?_) (fun hc1 => ?_)
  ·refine gt rfl <| a1 rfl <| gt rfl <| a1 (v := (I (wi (i_ + 1)))) rfl <| gt rfl <| a1 rfl <| gt rfl <| a1 (v := (I (s_.length : Int))) rfl <| gt rfl <| a1 (v := (B (decide ((wi (i_ + 1)) < (s_.length : Int))))) rfl <| un1 (v := (B (decide ((wi (i_ + 1)) < (s_.length : Int))))) rfl <| dnil ?_
   exact hX _ (.putEq (by rw [hc1]; rfl) (by repeat (first | exact .putEq (by rw [hc1]) (.refl _) | refine .skp ?_ rfl)))
  ·repeat (first | refine gu rfl ?_ | refine gs rfl rfl ?_)
   refine un1 (v := (B false)) rfl <| dnil ?_
   exact hX _ (.putEq (by rw [hc1]; rfl) (by repeat (first | exact .putEq (by rw [hc1]) (.refl _) | refine .skp ?_ rfl)))
 refine un1 rfl ?_
 refine spl h (fun h => ?_) fun h => ?_
 ·refine gt rfl <| a1 rfl <| gt rfl <| a1 rfl <| gt rfl <| a1 (v := (I (wi (i_ + 1)))) rfl ?_
  obtain ⟨c_, hx1, h⟩ := bnd h
  refine gt rfl <| a1 (v := (.c (.val (.int .u8 (c_.toNat : Int))))) (s_idxS rfl rfl hx1) <| gt rfl <| a1 (v := (B (!decide ((c_.toNat : Int) = 10)))) rfl <| un1 (v := (B (!decide ((c_.toNat : Int) = 10)))) rfl <| un1 rfl <| dnil ?_
  exact Sv.weak (wcn [] rfl (.cf rfl rfl .nil) .nil) (Z8h h)
 ·repeat (first | refine gu rfl ?_ | refine gs rfl rfl ?_)
  refine un1 (v := (B false)) rfl <| un1 rfl <| dnil ?_
  exact Sv.weak (wcn [] rfl (.cf rfl rfl .nil) .nil) (Z8h h)
def a169_c0 : ACode := .ret
def a169_c2 : ACode := .ret
def a169_c1 : ACode := (sr [(mV 34 1), (mV 35 0), (oP 36 (.lenS (.tmp 35))), (oP 37 (.bin .lss (.tmp 34) (.tmp 36))), (mV 38 37), ⟨(some 39), (.mov (.tmp 0)), (some (38, true))⟩, ⟨(some 40), (.mov (.tmp 1)), (some (38, true))⟩, ⟨(some 41), (.idxS (.tmp 39) (.tmp 40)), (some (38, true))⟩, ⟨(some 42), (.call 212 [(.tmp 41)]), (some (38, true))⟩, (oP 43 (.pick (.tmp 38) (.tmp 42) kF)), (mV 44 43), ⟨(some 45), (.mov (.tmp 0)), (some (44, false))⟩, ⟨(some 46), (.mov (.tmp 1)), (some (44, false))⟩, ⟨(some 47), (.call 167 [(.tmp 45), (.tmp 46)]), (some (44, false))⟩, (oP 48 (.pick (.tmp 44) kT (.tmp 47))), (mV 4 48)]
 a169_c2)
def a169 : AFunc := ⟨2, [(.tmp 4)], (sr [(oP 4 (.mov kF))]
 (.seq (sr [(mV 5 0), (mV 6 1), (oP 7 (.call 161 [(.tmp 5), (.tmp 6)])), (oP 8 (.bin .eql (.tmp 7) (.const (.c (.val (.int .u8 45))))))]
 (.cond (.tmp 8) (sr [(mV 9 1), (oP 10 (.bin .add (.tmp 9) (kI 1))), (mV 11 0), (oP 12 (.lenS (.tmp 11))), (oP 13 (.bin .lss (.tmp 10) (.tmp 12))), (mV 14 13), ⟨(some 15), (.mov (.tmp 0)), (some (14, true))⟩, ⟨(some 16), (.mov (.tmp 1)), (some (14, true))⟩, ⟨(some 17), (.bin .add (.tmp 16) (kI 1)), (some (14, true))⟩, ⟨(some 18), (.idxS (.tmp 15) (.tmp 17)), (some (14, true))⟩, ⟨(some 19), (.bin .eql (.tmp 18) (.const (.c (.val (.int .u8 45))))), (some (14, true))⟩, ⟨(some 20), (.mov (.tmp 19)), (some (14, true))⟩, ⟨(some 21), (.mov (.tmp 0)), (some (20, false))⟩, ⟨(some 22), (.mov (.tmp 1)), (some (20, false))⟩, ⟨(some 23), (.bin .add (.tmp 22) (kI 1)), (some (20, false))⟩, ⟨(some 24), (.idxS (.tmp 21) (.tmp 23)), (some (20, false))⟩, ⟨(some 25), (.call 212 [(.tmp 24)]), (some (20, false))⟩, ⟨(some 26), (.pick (.tmp 20) kT (.tmp 25)), (some (14, true))⟩, ⟨(some 27), (.mov (.tmp 26)), (some (14, true))⟩, ⟨(some 28), (.mov (.tmp 0)), (some (27, false))⟩, ⟨(some 29), (.mov (.tmp 1)), (some (27, false))⟩, ⟨(some 30), (.bin .add (.tmp 29) (kI 1)), (some (27, false))⟩, ⟨(some 31), (.call 167 [(.tmp 28), (.tmp 30)]), (some (27, false))⟩, ⟨(some 32), (.pick (.tmp 27) kT (.tmp 31)), (some (14, true))⟩, (oP 33 (.pick (.tmp 14) (.tmp 32) kF)), (mV 4 33)]
 a169_c0) .skip))
 a169_c1))⟩
theorem c169 : compFunc Tryz.prog 169 = some a169 := by kernel_rfl
def Z4h (r : Bool) : AV → Heap → Nat → Prop := fun v h' n' => v = (B r) ∧ (h' = e0) ∧ n' = 0
abbrev Zcl (mL : Int) (o : Bool) : AExit → St → Prop := AThen (Sv Tryz.prog (GG mL) 0 a169_c1 (Ends a169.results 0 (Z4h o))) (Ends a169.results 0 (Z4h o))
noncomputable def Z1t (v4 : Bool) : Option Bool :=
 some v4
theorem Z4i {mL : Int} {v4 : Bool} {o : Bool} (h : Z1t v4 = some o) :
  Sv Tryz.prog (GG mL) 0 a169_c0 (Zcl mL o) ⟨(upd e0 4 (some (B v4))), e0, 0⟩ := by
 unfold Z1t at h
 refine Sv.ret ?_
 exact rt0 h rfl rfl ⟨rfl, rfl, rfl⟩
noncomputable def Z2r (v41 : Bool) : Option Bool :=
 some v41
theorem Z5j {mL : Int} {v41 : Bool} {o : Bool} (h : Z2r v41 = some o) :
  Sv Tryz.prog (GG mL) 0 a169_c2 (Ends a169.results 0 (Z4h o)) ⟨(upd e0 4 (some (B v41))), e0, 0⟩ := by
 unfold Z2r at h
 refine Sv.ret ?_
 exact rt0 h rfl rfl ⟨rfl, rfl, rfl⟩
/-- clerestory/clerestoryref2.begins -/
noncomputable def Z1u (s_ : Tx) (i_ : Int) : Option Bool :=
 (Z6 s_ i_).bind fun r_ =>
 if decide (r_ = 45) then
  if decide ((wi (i_ + 1)) < (s_.length : Int)) then
   (at? s_ (wi (i_ + 1))).bind fun c_ =>
   if decide ((c_.toNat : Int) = 45) then
    Z1t true
   else
    (at? s_ (wi (i_ + 1))).bind fun c_1 =>
    if (Z7 (c_1.toNat : Int)) then
     Z1t true
    else
     (Z19 s_ (wi (i_ + 1))).bind fun r_1 =>
     Z1t r_1
  else
   Z1t false
 else
  if decide (i_ < (s_.length : Int)) then
   (at? s_ i_).bind fun c_2 =>
   if (Z7 (c_2.toNat : Int)) then
    Z2r true
   else
    (Z19 s_ i_).bind fun r_2 =>
    Z2r r_2
  else
   (Z19 s_ i_).bind fun r_3 =>
   Z2r r_3
theorem Z5k {mL : Int} {s_ : Tx} {i_ : Int} {r : Bool} (h : Z1u s_ i_ = some r) : CPure Tryz.prog (GG mL) 169 [(S s_), (I i_)] (B r) := by
 refine acalls_of_sv hmix c169 (R := Z4h r) ?_
 unfold Z1u at h
 refine ssr <| un1 rfl <| dnil <| Sv.seq <| ssr <| un1 rfl <| un1 rfl ?_
 obtain ⟨r_, hr1, h⟩ := bnd h
 refine un <| ac_pure (Z18 hr1) rfl rfl rfl <| un1 (v := (B (decide (r_ = 45)))) rfl <| dnil ?_
 refine Sv.cnd rfl h (fun h => ?_) fun h => ?_
 ·refine ssr <| un1 rfl <| un1 (v := (I (wi (i_ + 1)))) rfl <| un1 rfl <| un1 (v := (I (s_.length : Int))) rfl <| un1 (v := (B (decide ((wi (i_ + 1)) < (s_.length : Int))))) rfl <| un1 rfl ?_
  refine spl h (fun h => ?_) fun h => ?_
  ·refine gt rfl <| a1 rfl <| gt rfl <| a1 rfl <| gt rfl <| a1 (v := (I (wi (i_ + 1)))) rfl ?_
   obtain ⟨c_, hx1, h⟩ := bnd h
   refine gt rfl <| a1 (v := (.c (.val (.int .u8 (c_.toNat : Int))))) (s_idxS rfl rfl hx1) <| gt rfl <| a1 (v := (B (decide ((c_.toNat : Int) = 45)))) rfl <| gt rfl <| a1 rfl ?_
   refine spl h (fun h => ?_) fun h => ?_
   ·repeat (first | refine gu rfl ?_ | refine gs rfl rfl ?_)
    refine gt rfl <| a1 (v := (B true)) rfl <| gt rfl <| a1 rfl <| gs rfl rfl <| gs rfl rfl <| gs rfl rfl <| gs rfl rfl <| gt rfl <| a1 (v := (B true)) rfl <| un1 (v := (B true)) rfl <| un1 rfl <| dnil ?_
    exact Sv.weak (wcn [] rfl (.cf rfl rfl .nil) .nil) (Z4i h)
   ·refine gt rfl <| a1 rfl <| gt rfl <| a1 rfl <| gt rfl <| a1 (v := (I (wi (i_ + 1)))) rfl ?_
    obtain ⟨c_1, hx2, h⟩ := bnd h
    refine gt rfl <| a1 (v := (.c (.val (.int .u8 (c_1.toNat : Int))))) (s_idxS rfl rfl hx2) <| gt rfl <| ac_pure (Z5i (mL := mL) (c_1.toNat : Int)) rfl rfl rfl <| gt rfl <| a1 (v := (B (Z7 (c_1.toNat : Int)))) rfl <| gt rfl <| a1 rfl ?_
    refine spl h (fun h => ?_) fun h => ?_
    ·refine gs rfl rfl <| gs rfl rfl <| gs rfl rfl <| gs rfl rfl <| gt rfl <| a1 (v := (B true)) rfl <| un1 (v := (B true)) rfl <| un1 rfl <| dnil ?_
     exact Sv.weak (wcn [] rfl (.cf rfl rfl .nil) .nil) (Z4i h)
    ·refine gt rfl <| a1 rfl <| gt rfl <| a1 rfl <| gt rfl <| a1 (v := (I (wi (i_ + 1)))) rfl ?_
     obtain ⟨r_1, hr2, h⟩ := bnd h
     refine gt rfl <| ac_pure (Z3q hr2) rfl rfl rfl <| gt rfl <| a1 (v := (B r_1)) rfl <| un1 (v := (B r_1)) rfl <| un1 rfl <| dnil ?_
     exact Sv.weak (wcn [] rfl (.cf rfl rfl .nil) .nil) (Z4i h)
  ·repeat (first | refine gu rfl ?_ | refine gs rfl rfl ?_)
   refine un1 (v := (B false)) rfl <| un1 rfl <| dnil ?_
   exact Sv.weak (wcn [] rfl (.cf rfl rfl .nil) .nil) (Z4i h)
 ·refine Sv.skip <| ssr <| un1 rfl <| un1 rfl <| un1 (v := (I (s_.length : Int))) rfl <| un1 (v := (B (decide (i_ < (s_.length : Int))))) rfl <| un1 rfl ?_
  refine spl h (fun h => ?_) fun h => ?_
  ·refine gt rfl <| a1 rfl <| gt rfl <| a1 rfl ?_
   obtain ⟨c_2, hx3, h⟩ := bnd h
   refine gt rfl <| a1 (v := (.c (.val (.int .u8 (c_2.toNat : Int))))) (s_idxS rfl rfl hx3) <| gt rfl <| ac_pure (Z5i (mL := mL) (c_2.toNat : Int)) rfl rfl rfl <| un1 (v := (B (Z7 (c_2.toNat : Int)))) rfl <| un1 rfl ?_
   refine spl h (fun h => ?_) fun h => ?_
   ·refine gs rfl rfl <| gs rfl rfl <| gs rfl rfl <| un1 (v := (B true)) rfl <| un1 rfl <| dnil ?_
    exact Sv.weak (wcn [] rfl (.cf rfl rfl .nil) .nil) (Z5j h)
   ·refine gt rfl <| a1 rfl <| gt rfl <| a1 rfl ?_
    obtain ⟨r_2, hr3, h⟩ := bnd h
    refine gt rfl <| ac_pure (Z3q hr3) rfl rfl rfl <| un1 (v := (B r_2)) rfl <| un1 rfl <| dnil ?_
    exact Sv.weak (wcn [] rfl (.cf rfl rfl .nil) .nil) (Z5j h)
  ·refine gs rfl rfl <| gs rfl rfl <| gs rfl rfl <| gs rfl rfl <| un1 (v := (B false)) rfl <| un1 rfl <| gt rfl <| a1 rfl <| gt rfl <| a1 rfl ?_
   obtain ⟨r_3, hr4, h⟩ := bnd h
   refine gt rfl <| ac_pure (Z3q hr4) rfl rfl rfl <| un1 (v := (B r_3)) rfl <| un1 rfl <| dnil ?_
   exact Sv.weak (wcn [] rfl (.cf rfl rfl .nil) .nil) (Z5j h)
def a166 : AFunc := ⟨1, [(.tmp 2)], (sr [(oP 2 (.mov kF))]
 (sr [(mV 3 0), (oP 4 (.call 212 [(.tmp 3)])), (mV 5 4), ⟨(some 6), (.mov (.tmp 0)), (some (5, false))⟩, ⟨(some 7), (.call 59 [(.tmp 6)]), (some (5, false))⟩, (oP 8 (.pick (.tmp 5) kT (.tmp 7))), (mV 9 8), ⟨(some 10), (.mov (.tmp 0)), (some (9, false))⟩, ⟨(some 11), (.bin .eql (.tmp 10) (.const (.c (.val (.int .u8 45))))), (some (9, false))⟩, (oP 12 (.pick (.tmp 9) kT (.tmp 11))), (mV 2 12)]
 .ret))⟩
theorem c166 : compFunc Tryz.prog 166 = some a166 := by kernel_rfl
def Zcm (r : Bool) : AV → Heap → Nat → Prop := fun v h' n' => v = (B r) ∧ (h' = e0) ∧ n' = 0
/-- clerestory/clerestoryref2.named -/
def Z1i (c_ : Int) : Bool :=
 (((Z7 c_) || (Z2 c_)) || (decide (c_ = 45)))
theorem Z8i {mL : Int} (c_ : Int) : CPure Tryz.prog (GG mL) 166 [(.c (.val (.int .u8 c_)))] (B (Z1i c_)) := by
 generalize h : Z1i c_ = o
 refine acalls_of_sv hmix c166 (R := Zcm o) ?_
 unfold Z1i at h
 refine ssr <| un1 rfl <| dnil <| ssr <| un1 rfl <| un <| ac_pure (Z5i (mL := mL) c_) rfl rfl rfl <| un1 rfl ?_
 refine gjoin 3 (d := 8) (v := (B ((Z7 c_) || (Z2 c_)))) (fun X hX => ?_) ?_
 ·refine split2 (fun hc1 => ?_) (fun hc1 => ?_)
  ·refine gs rfl rfl <| gs rfl rfl <| un1 (v := (B true)) rfl <| dnil ?_
   exact hX _ (.putEq (by rw [hc1]; rfl) (.skp (.skp (.putEq (by rw [hc1]) (.refl _)) rfl) rfl))
  ·refine gt rfl <| a1 rfl <| gt rfl <| ac_pure (Z4g (mL := mL) c_) rfl rfl rfl <| un1 (v := (B (Z2 c_))) rfl <| dnil ?_
   exact hX _ (.putEq (by rw [hc1]; rfl) (.skp (.skp (.putEq (by rw [hc1]) (.refl _)) rfl) rfl))
 refine un1 rfl ?_
 refine gjoin 3 (d := 12) (v := (B (((Z7 c_) || (Z2 c_)) || (decide (c_ = 45))))) (fun X hX => ?_) ?_
 ·refine split2 (fun hc2 => ?_) (fun hc2 => ?_)
  ·refine gs rfl rfl <| gs rfl rfl <| un1 (v := (B true)) rfl <| dnil ?_
   exact hX _ (.putEq (by rw [hc2]; rfl) (.skp (.skp (.putEq (by rw [hc2]) (.refl _)) rfl) rfl))
  ·refine gt rfl <| a1 rfl <| gt rfl <| a1 (v := (B (decide (c_ = 45)))) rfl <| un1 (v := (B (decide (c_ = 45)))) rfl <| dnil ?_
   exact hX _ (.putEq (by rw [hc2]; rfl) (.skp (.skp (.putEq (by rw [hc2]) (.refl _)) rfl) rfl))
 refine un1 rfl <| dnil <| Sv.ret ?_
 subst h
 exact ⟨_, .refl _, _, rfl, ⟨upd e0 0 (some (B (((Z7 c_) || (Z2 c_)) || (decide (c_ = 45))))), e0, 0⟩, (B (((Z7 c_) || (Z2 c_)) || (decide (c_ = 45)))), weak_canon [] rfl ndl nll nlz (.cf rfl rfl .nil) .nil, rfl, rfl, rfl, rfl⟩
def a168_c0 : ACode := (.cond (.tmp 21) .skip (.exit 0))
def a168_c1 : ACode := (sr [(mV 28 6), (mV 29 0), (mV 30 1), (mV 31 1), (oP 32 (.bin .add (.tmp 31) (kI 1))), (oP 33 (.slStr (.tmp 29) (some (.tmp 30)) (some (.tmp 32)))), (oP 34 (.bin .add (.tmp 28) (.tmp 33))), (mV 6 34)]
 (.region [(mV 35 1), (oP 36 (.bin .add (.tmp 35) (kI 1))), (mV 1 36)]))
def a168_c2 : ACode := (.block 1 (.seq (sr [(mV 22 0), (mV 23 1), (oP 24 (.idxS (.tmp 22) (.tmp 23))), (oP 25 (.bin .eql (.tmp 24) (.const (.c (.val (.int .u8 92))))))]
 (.cond (.tmp 25) (.region [(mV 26 1), (oP 27 (.bin .add (.tmp 26) (kI 1))), (mV 1 27)]) .skip))
 a168_c1))
def a168_c3 : ACode := (.seq (sr [(mV 7 1), (mV 8 0), (oP 9 (.lenS (.tmp 8))), (oP 10 (.bin .lss (.tmp 7) (.tmp 9))), (mV 11 10), ⟨(some 12), (.mov (.tmp 0)), (some (11, true))⟩, ⟨(some 13), (.mov (.tmp 1)), (some (11, true))⟩, ⟨(some 14), (.idxS (.tmp 12) (.tmp 13)), (some (11, true))⟩, ⟨(some 15), (.call 166 [(.tmp 14)]), (some (11, true))⟩, ⟨(some 16), (.mov (.tmp 15)), (some (11, true))⟩, ⟨(some 17), (.mov (.tmp 0)), (some (16, false))⟩, ⟨(some 18), (.mov (.tmp 1)), (some (16, false))⟩, ⟨(some 19), (.call 167 [(.tmp 17), (.tmp 18)]), (some (16, false))⟩, ⟨(some 20), (.pick (.tmp 16) kT (.tmp 19)), (some (11, true))⟩, (oP 21 (.pick (.tmp 11) (.tmp 20) kF))]
 a168_c0)
 a168_c2)
def a168 : AFunc := ⟨2, [(.tmp 4), (.tmp 5)], (sr [(oP 4 (.mov (.const (.c (.str []))))), (oP 5 (.mov (kI 0)))]
 (sr [(oP 6 (.mov (.const (.c (.str [])))))]
 (.seq (.block 0 (.loop a168_c3))
 (sr [(mV 37 6), (mV 38 1), (mV 4 37), (mV 5 38)]
 .ret))))⟩
theorem c168 : compFunc Tryz.prog 168 = some a168 := by kernel_rfl
def Z4j (r : (Tx × Int)) : AV → Heap → Nat → Prop := fun v h' n' => v = (.tup [(S r.1), (I r.2)]) ∧ (h' = e0) ∧ n' = 0
abbrev Zcn (mL : Int) (Q : AExit → St → Prop) : AExit → St → Prop := ABlock 1 Q
abbrev Z5l (s_ : Tx) (F_ : Int → Tx → Option (Tx × Int)) (o : (Tx × Int)) (R_ : St → Prop) : Prop := ∀ (i_1 : Int) (out : Tx), F_ i_1 out = some o → ∀ s, Weak 0 s ⟨(ue [(6, (S out)), (1, (I i_1)), (0, (S s_))]), e0, 0⟩ → R_ s
abbrev Z5m (F_ : Int → Tx → Option (Tx × Int)) (o : (Tx × Int)) (R_ : St → Prop) : Prop := ∀ (i_2 : Int) (out1 : Tx), F_ i_2 out1 = some o → ∀ s, Weak 0 s ⟨(ue [(6, (S out1)), (1, (I i_2))]), e0, 0⟩ → R_ s
noncomputable def Z3r (s_ : Tx) (out : Tx) (self : Int → Tx → Option (Tx × Int)) (K0_ : Int → Tx → Option (Tx × Int)) (i_3 : Int) : Option (Tx × Int) :=
 (sub? s_ i_3 (wi (i_3 + 1))).bind fun r_ =>
 (cat? out r_).bind fun r_1 =>
 self (wi (i_3 + 1)) r_1
theorem Z8j {mL : Int} {Q : AExit → St → Prop} {s_ : Tx} {out : Tx} {self : Int → Tx → Option (Tx × Int)} {K0_ : Int → Tx → Option (Tx × Int)} {i_3 : Int} {o : (Tx × Int)} (h : Z3r s_ out self K0_ i_3 = some o)
  (hself : Z5l s_ self o (Q .normal))
  (hK0 : Z5m K0_ o (Q (.exit 0)))
  (hr : ∀ s, Ends a168.results 0 (Z4j o) .ret s → Q .ret s) :
  Sv Tryz.prog (GG mL) 0 a168_c1 (Zcn mL Q) ⟨(ue [(6, (S out)), (1, (I i_3)), (0, (S s_))]), e0, 0⟩ := by
 unfold Z3r at h
 refine ssr <| un1 rfl <| un1 rfl <| un1 rfl <| un1 rfl <| un1 (v := (I (wi (i_3 + 1)))) rfl ?_
 obtain ⟨r_, hx1, h⟩ := bnd h
 refine un1 (v := (S r_)) (s_slStr rfl rfl rfl hx1) ?_
 obtain ⟨r_1, hx2, h⟩ := bnd h
 refine un1 (v := (S r_1)) (s_cat rfl rfl hx2) <| un1 rfl <| dnil <| srg <| un1 rfl <| un1 (v := (I (wi (i_3 + 1)))) rfl <| un1 rfl <| dnil ?_
 exact hself (wi (i_3 + 1)) r_1 h _ (wcn [] rfl (.cf rfl rfl (.cf rfl rfl (.cf rfl rfl .nil))) .nil)
abbrev Zco (mL : Int) (Q : AExit → St → Prop) : AExit → St → Prop := AThen (Sv Tryz.prog (GG mL) 0 a168_c2 Q) Q
noncomputable def Z2s (s_ : Tx) (i_1 : Int) (out : Tx) (self : Int → Tx → Option (Tx × Int)) (K0_ : Int → Tx → Option (Tx × Int)) (v21 : Bool) : Option (Tx × Int) :=
 if v21 then
  (at? s_ i_1).bind fun c_ =>
  if decide ((c_.toNat : Int) = 92) then
   Z3r s_ out self K0_ (wi (i_1 + 1))
  else
   Z3r s_ out self K0_ i_1
 else
  K0_ i_1 out
theorem Z5n {mL : Int} {Q : AExit → St → Prop} {s_ : Tx} {i_1 : Int} {out : Tx} {self : Int → Tx → Option (Tx × Int)} {K0_ : Int → Tx → Option (Tx × Int)} {v21 : Bool} {o : (Tx × Int)} (h : Z2s s_ i_1 out self K0_ v21 = some o)
  (hself : Z5l s_ self o (Q .normal))
  (hK0 : Z5m K0_ o (Q (.exit 0)))
  (hr : ∀ s, Ends a168.results 0 (Z4j o) .ret s → Q .ret s) :
  Sv Tryz.prog (GG mL) 0 a168_c0 (Zco mL Q) ⟨(ue [(21, (B v21)), (6, (S out)), (1, (I i_1)), (0, (S s_))]), e0, 0⟩ := by
 unfold Z2s at h
 refine Sv.cnd rfl h (fun h => ?_) fun h => ?_
 ·refine Sv.skip <| Sv.block <| Sv.seq <| ssr <| un1 rfl <| un1 rfl ?_
  obtain ⟨c_, hx3, h⟩ := bnd h
  refine un1 (v := (.c (.val (.int .u8 (c_.toNat : Int))))) (s_idxS rfl rfl hx3) <| un1 (v := (B (decide ((c_.toNat : Int) = 92)))) rfl <| dnil ?_
  refine Sv.cnd rfl h (fun h => ?_) fun h => ?_
  ·refine srg <| un1 rfl <| un1 (v := (I (wi (i_1 + 1)))) rfl <| un1 rfl <| dnil ?_
   exact Sv.weak (wcn [] rfl (.cf rfl rfl (.cf rfl rfl (.cf rfl rfl .nil))) .nil) (Z8j h hself hK0 hr)
  ·refine Sv.skip ?_
   exact Sv.weak (wcn [] rfl (.cf rfl rfl (.cf rfl rfl (.cf rfl rfl .nil))) .nil) (Z8j h hself hK0 hr)
 ·refine Sv.exit ?_
  exact hK0 i_1 out h _ (wcn [] rfl (.cf rfl rfl (.cf rfl rfl .nil)) .nil)
abbrev Z8k (s_ : Tx) (F_ : Nat → Int → Tx → Option (Tx × Int)) (o : (Tx × Int)) : Nat → St → Prop := fun k s => ∃ (i_1 : Int), ∃ (out : Tx), F_ k i_1 out = some o ∧ s = ⟨(ue [(6, (S out)), (1, (I i_1)), (0, (S s_))]), e0, 0⟩
noncomputable def Zo (s_ : Tx) (K0_ : Int → Tx → Option (Tx × Int)) : Nat → Int → Tx → Option (Tx × Int)
 | 0, _, _ => none
 | k + 1, i_1, out =>
  if decide (i_1 < (s_.length : Int)) then
   (at? s_ i_1).bind fun c_1 =>
   if (Z1i (c_1.toNat : Int)) then
    Z2s s_ i_1 out (Zo s_ K0_ k) K0_ true
   else
    (Z19 s_ i_1).bind fun r_2 =>
    Z2s s_ i_1 out (Zo s_ K0_ k) K0_ r_2
  else
   Z2s s_ i_1 out (Zo s_ K0_ k) K0_ false
theorem Zcp {mL : Int} {Q : AExit → St → Prop} {s_ : Tx} {K0_ : Int → Tx → Option (Tx × Int)} {k : Nat} {i_1 : Int} {out : Tx} {o : (Tx × Int)} (h : Zo s_ K0_ k i_1 out = some o)
  (hK0 : Z5m K0_ o (Q (.exit 0)))
  (hr : ∀ s, Ends a168.results 0 (Z4j o) .ret s → Q .ret s) :
  Sv Tryz.prog (GG mL) 0 (.loop a168_c3) Q ⟨(ue [(6, (S out)), (1, (I i_1)), (0, (S s_))]), e0, 0⟩ := by
 refine Sv.loop (I := Z8k s_ (Zo s_ K0_) o) (fun k s hI => ?_) ⟨i_1, out, h, rfl⟩
 clear h
 clear out i_1
 obtain ⟨i_1, out, h, rfl⟩ := hI
 cases k with
 | zero => cases h
 | succ k =>
 rw [Zo] at h
 have hself : Z5l s_ (Zo s_ K0_ k) o (rnd 0 (Z8k s_ (Zo s_ K0_) o) k Q) := fun i_1 out h s hw => ⟨_, k, hw, Nat.lt_succ_self k, i_1, out, h, rfl⟩
 refine Sv.seq <| ssr <| un1 rfl <| un1 rfl <| un1 (v := (I (s_.length : Int))) rfl <| un1 (v := (B (decide (i_1 < (s_.length : Int))))) rfl <| un1 rfl ?_
 refine spl h (fun h => ?_) fun h => ?_
 ·refine gt rfl <| a1 rfl <| gt rfl <| a1 rfl ?_
  obtain ⟨c_1, hx4, h⟩ := bnd h
  refine gt rfl <| a1 (v := (.c (.val (.int .u8 (c_1.toNat : Int))))) (s_idxS rfl rfl hx4) <| gt rfl <| ac_pure (Z8i (mL := mL) (c_1.toNat : Int)) rfl rfl rfl <| gt rfl <| a1 rfl ?_
  refine spl h (fun h => ?_) fun h => ?_
  ·refine gs rfl rfl <| gs rfl rfl <| gs rfl rfl <| gt rfl <| a1 (v := (B true)) rfl <| un1 (v := (B true)) rfl <| dnil ?_
   exact Sv.weak (wcn [] rfl (.cf rfl rfl (.cf rfl rfl (.cf rfl rfl (.cf rfl rfl .nil)))) .nil) (Z5n h hself hK0 hr)
  ·refine gt rfl <| a1 rfl <| gt rfl <| a1 rfl ?_
   obtain ⟨r_2, hr1, h⟩ := bnd h
   refine gt rfl <| ac_pure (Z3q hr1) rfl rfl rfl <| gt rfl <| a1 (v := (B r_2)) rfl <| un1 (v := (B r_2)) rfl <| dnil ?_
   exact Sv.weak (wcn [] rfl (.cf rfl rfl (.cf rfl rfl (.cf rfl rfl (.cf rfl rfl .nil)))) .nil) (Z5n h hself hK0 hr)
 ·repeat (first | refine gu rfl ?_ | refine gs rfl rfl ?_)
  refine un1 (v := (B false)) rfl <| dnil ?_
  exact Sv.weak (wcn [] rfl (.cf rfl rfl (.cf rfl rfl (.cf rfl rfl (.cf rfl rfl .nil)))) .nil) (Z5n h hself hK0 hr)
/-- clerestory/clerestoryref2.said -/
noncomputable def Z1a (s_ : Tx) (i_ : Int) : Option (Tx × Int) :=
 lim fun kk => Zo s_ (fun (i_2 : Int) (out1 : Tx) => 
   some (out1, i_2)) kk i_ []
theorem Z4k {mL : Int} {s_ : Tx} {i_ : Int} {r : (Tx × Int)} (h : Z1a s_ i_ = some r) : CPure Tryz.prog (GG mL) 168 [(S s_), (I i_)] (.tup [(S r.1), (I r.2)]) := by
 refine acalls_of_sv hmix c168 (R := Z4j r) ?_
 unfold Z1a at h
 refine ssr <| un1 rfl <| un1 rfl <| dnil <| ssr <| un1 rfl <| dnil <| Sv.seq <| Sv.block ?_
 obtain ⟨kk, h⟩ := lim_some h
 refine Sv.weak (wcn [] rfl (.cf rfl rfl (.cf rfl rfl (.cf rfl rfl .nil))) .nil) (Zcp h ?_ (fun s hs => hs))
 ·intro i_2 out1 h _ hw1
  refine Sv.weak hw1 <| ssr <| un1 rfl <| un1 rfl <| un1 rfl <| un1 rfl <| dnil <| Sv.ret ?_
  exact rt0 h rfl rfl ⟨rfl, rfl, rfl⟩
def a120_c0 : ACode := (.cond (.tmp 24) (.region [(mV 25 3), (mV 26 4), (mV 27 3), (mV 28 4), (oP 29 (.iaddr 1 (.tmp 27) (.tmp 28))), (oP 30 (.load false 1 (.tmp 29))), (oP 31 (.bin .add (.tmp 30) (.const (.c (.val (.int .u8 32)))))), (oP 32 (.iaddr 1 (.tmp 25) (.tmp 26))), (oN (.store 1 (.tmp 32) (.tmp 31)))]) .skip)
def a120_c1 : ACode := (.region [(mV 11 4), (oP 12 (.bin .add (.tmp 11) (kI 1))), (mV 4 12)])
def a120_c2 : ACode := (.seq (sr [(mV 7 4), (mV 8 3), (oP 9 (.len (.tmp 8))), (oP 10 (.bin .lss (.tmp 7) (.tmp 9)))]
 (.cond (.tmp 10) .skip (.exit 0)))
 (.seq (.block 1 (sr [(mV 13 3), (mV 14 4), (oP 15 (.iaddr 1 (.tmp 13) (.tmp 14))), (oP 16 (.load false 1 (.tmp 15))), (oP 17 (.bin .geq (.tmp 16) (.const (.c (.val (.int .u8 65)))))), (mV 18 17), ⟨(some 19), (.mov (.tmp 3)), (some (18, true))⟩, ⟨(some 20), (.mov (.tmp 4)), (some (18, true))⟩, ⟨(some 21), (.iaddr 1 (.tmp 19) (.tmp 20)), (some (18, true))⟩, ⟨(some 22), (.load false 1 (.tmp 21)), (some (18, true))⟩, ⟨(some 23), (.bin .leq (.tmp 22) (.const (.c (.val (.int .u8 90))))), (some (18, true))⟩, (oP 24 (.pick (.tmp 18) (.tmp 23) kF))]
 a120_c0))
 a120_c1))
def a120 : AFunc := ⟨1, [(.tmp 2)], (sr [(oP 2 (.mov (.const (.c (.str [])))))]
 (sr [(mV 5 0), (oP 6 (.toBytes (.tmp 5))), (mV 3 6)]
 (.seq (sr [(oP 4 (.mov (kI 0)))]
 (.block 0 (.loop a120_c2)))
 (sr [(mV 33 3), (oP 34 (.ofBytes (.tmp 33))), (mV 2 34)]
 .ret))))⟩
theorem c120 : compFunc Tryz.prog 120 = some a120 := by kernel_rfl
def Z4l (r : Tx) : AV → Heap → Nat → Prop := fun v h' n' => v = (S r) ∧ (h' = e0) ∧ n' = 0
abbrev Z5o (F_ : (List Int) → Int → Option Tx) (o : Tx) (R_ : St → Prop) : Prop := ∀ (b_ : (List Int)) (i_ : Int) (zb : Bool) (_ : zb = true → b_ = []), F_ b_ i_ = some o → ∀ s, Weak 0 s ⟨(ue [(4, (I i_)), (3, (lstV zb 0 1 b_.length))]), (upd e0 0 (lstB zb 1 (b_.map (eK .u8)))), 1⟩ → R_ s
abbrev Z5p (F_ : (List Int) → Option Tx) (o : Tx) (R_ : St → Prop) : Prop := ∀ (b_1 : (List Int)) (zb_1 : Bool) (_ : zb_1 = true → b_1 = []), F_ b_1 = some o → ∀ s, Weak 0 s ⟨(upd e0 3 (some (lstV zb_1 0 1 b_1.length))), (upd e0 0 (lstB zb_1 1 (b_1.map (eK .u8)))), 1⟩ → R_ s
noncomputable def Z3s (i_ : Int) (self : (List Int) → Int → Option Tx) (K0_ : (List Int) → Option Tx) (b_2 : (List Int)) : Option Tx :=
 self b_2 (wi (i_ + 1))
theorem Z8l {mL : Int} {Q : AExit → St → Prop} {i_ : Int} {self : (List Int) → Int → Option Tx} {K0_ : (List Int) → Option Tx} {b_2 : (List Int)} {zb_2 : Bool} (hzb_2 : zb_2 = true → b_2 = []) {o : Tx} (h : Z3s i_ self K0_ b_2 = some o)
  (hself : Z5o self o (Q .normal))
  (hK0 : Z5p K0_ o (Q (.exit 0)))
  (hr : ∀ s, Ends a120.results 0 (Z4l o) .ret s → Q .ret s) :
  Sv Tryz.prog (GG mL) 0 a120_c1 Q ⟨(ue [(4, (I i_)), (3, (lstV zb_2 0 1 b_2.length))]), (upd e0 0 (lstB zb_2 1 (b_2.map (eK .u8)))), 1⟩ := by
 unfold Z3s at h
 refine srg <| un1 rfl <| un1 (v := (I (wi (i_ + 1)))) rfl <| un1 rfl <| dnil ?_
 exact hself b_2 (wi (i_ + 1)) zb_2 hzb_2 h _ (wcn [0] rfl (.cf rfl rfl (.cons rfl (.c (lsr rfl rfl)) .nil)) (.row (by decide) rfl (fr_map fun _ => rfl) .nil))
abbrev Zcq (mL : Int) (Q : AExit → St → Prop) : AExit → St → Prop := AThen (Sv Tryz.prog (GG mL) 0 a120_c1 Q) Q
abbrev Zcr (mL : Int) (Q : AExit → St → Prop) : AExit → St → Prop := ABlock 1 (Zcq mL Q)
noncomputable def Z3t (i_ : Int) (self : (List Int) → Int → Option Tx) (K0_ : (List Int) → Option Tx) (b_3 : (List Int)) (v24 : Bool) : Option Tx :=
 if v24 then
  (at? b_3 i_).bind fun x_ =>
  (at? b_3 i_).bind fun x_1 =>
  Z3s i_ self K0_ (b_3.set i_.toNat (wr .u8 (x_ + 32)))
 else
  Z3s i_ self K0_ b_3
theorem Z8m {mL : Int} {Q : AExit → St → Prop} {i_ : Int} {self : (List Int) → Int → Option Tx} {K0_ : (List Int) → Option Tx} {b_3 : (List Int)} {v24 : Bool} {zb_3 : Bool} (hzb_3 : zb_3 = true → b_3 = []) {o : Tx} (h : Z3t i_ self K0_ b_3 v24 = some o)
  (hself : Z5o self o (Q .normal))
  (hK0 : Z5p K0_ o (Q (.exit 0)))
  (hr : ∀ s, Ends a120.results 0 (Z4l o) .ret s → Q .ret s) :
  Sv Tryz.prog (GG mL) 0 a120_c0 (Zcr mL Q) ⟨(ue [(24, (B v24)), (4, (I i_)), (3, (lstV zb_3 0 1 b_3.length))]), (upd e0 0 (lstB zb_3 1 (b_3.map (eK .u8)))), 1⟩ := by
 unfold Z3t at h
 refine Sv.cnd rfl h (fun h => ?_) fun h => ?_
 ·refine srg <| un1 rfl <| un1 rfl <| un1 rfl <| un1 rfl ?_
  obtain ⟨x_, hx1, h⟩ := bnd h
  refine un1 (v := (.c (.ref 0 1 i_.toNat 0))) (s_iaddrL rfl rfl hzb_3 hx1) <| un1 (v := (.c (.val (.int .u8 x_)))) (s_loadL (z := zb_3) (e := (eK .u8)) rfl rfl hzb_3 hx1 rfl rfl) <| un1 (v := (.c (.val (.int .u8 (wr .u8 (x_ + 32)))))) rfl ?_
  obtain ⟨x_1, hx2, h⟩ := bnd h
  refine un1 (v := (.c (.ref 0 1 i_.toNat 0))) (s_iaddrL rfl rfl hzb_3 hx2) <| un <| a2n (h' := upd _ 0 (lstB zb_3 1 ((b_3.set i_.toNat (wr .u8 (x_ + 32))).map (eK .u8)))) (n' := 1) rfl (s_storeL (e := (eK .u8)) (q' := (wr .u8 (x_ + 32))) rfl rfl hzb_3 hx2 rfl rfl rfl (Nat.le_of_ble_eq_true rfl) rfl) hcs ?_
  try rw [len_set b_3 i_.toNat (wr .u8 (x_ + 32))]
  refine dnil ?_
  exact Sv.weak (wcn [0] rfl (.cf rfl rfl (.cons rfl (.c (lsr rfl rfl)) .nil)) (.row (by decide) rfl (fr_map fun _ => rfl) .nil)) (Z8l (hz_len hzb_3 (len_set b_3 i_.toNat (wr .u8 (x_ + 32)))) h hself hK0 hr)
 ·refine Sv.skip ?_
  exact Sv.weak (wcn [0] rfl (.cf rfl rfl (.cons rfl (.c (lsr rfl rfl)) .nil)) (.row (by decide) rfl (fr_map fun _ => rfl) .nil)) (Z8l hzb_3 h hself hK0 hr)
abbrev Z8n (F_ : Nat → (List Int) → Int → Option Tx) (o : Tx) : Nat → St → Prop := fun k s => ∃ (b_ : (List Int)), ∃ (i_ : Int), ∃ (zb : Bool), (zb = true → b_ = []) ∧ F_ k b_ i_ = some o ∧ s = ⟨(ue [(4, (I i_)), (3, (lstV zb 0 1 b_.length))]), (upd e0 0 (lstB zb 1 (b_.map (eK .u8)))), 1⟩
noncomputable def Z10 (K0_ : (List Int) → Option Tx) : Nat → (List Int) → Int → Option Tx
 | 0, _, _ => none
 | k + 1, b_, i_ =>
  if decide (i_ < (b_.length : Int)) then
   (at? b_ i_).bind fun x_2 =>
   if decide (65 ≤ x_2) then
    (at? b_ i_).bind fun x_3 =>
    Z3t i_ (Z10 K0_ k) K0_ b_ (decide (x_3 ≤ 90))
   else
    Z3t i_ (Z10 K0_ k) K0_ b_ false
  else
   K0_ b_
theorem Zcs {mL : Int} {Q : AExit → St → Prop} {K0_ : (List Int) → Option Tx} {k : Nat} {b_ : (List Int)} {i_ : Int} {zb : Bool} (hzb : zb = true → b_ = []) {o : Tx} (h : Z10 K0_ k b_ i_ = some o)
  (hK0 : Z5p K0_ o (Q (.exit 0)))
  (hr : ∀ s, Ends a120.results 0 (Z4l o) .ret s → Q .ret s) :
  Sv Tryz.prog (GG mL) 0 (.loop a120_c2) Q ⟨(ue [(4, (I i_)), (3, (lstV zb 0 1 b_.length))]), (upd e0 0 (lstB zb 1 (b_.map (eK .u8)))), 1⟩ := by
 refine Sv.loop (I := Z8n (Z10 K0_) o) (fun k s hI => ?_) ⟨b_, i_, zb, hzb, h, rfl⟩
 clear h
 clear hzb zb i_ b_
 obtain ⟨b_, i_, zb, hzb, h, rfl⟩ := hI
 cases k with
 | zero => cases h
 | succ k =>
 rw [Z10] at h
 have hself : Z5o (Z10 K0_ k) o (rnd 0 (Z8n (Z10 K0_) o) k Q) := fun b_ i_ zb hzb h s hw => ⟨_, k, hw, Nat.lt_succ_self k, b_, i_, zb, hzb, h, rfl⟩
 refine Sv.seq <| ssr <| un1 rfl <| un1 rfl <| un1 (v := (I (b_.length : Int))) (s_lenL rfl (len_nil_of hzb)) <| un1 (v := (B (decide (i_ < (b_.length : Int))))) rfl <| dnil ?_
 refine Sv.cnd rfl h (fun h => ?_) fun h => ?_
 ·refine Sv.skip <| Sv.seq <| Sv.block <| ssr <| un1 rfl <| un1 rfl ?_
  obtain ⟨x_2, hx3, h⟩ := bnd h
  refine un1 (v := (.c (.ref 0 1 i_.toNat 0))) (s_iaddrL rfl rfl hzb hx3) <| un1 (v := (.c (.val (.int .u8 x_2)))) (s_loadL (z := zb) (e := (eK .u8)) rfl rfl hzb hx3 rfl rfl) <| un1 (v := (B (decide (65 ≤ x_2)))) rfl <| un1 rfl ?_
  refine spl h (fun h => ?_) fun h => ?_
  ·refine gt rfl <| a1 rfl <| gt rfl <| a1 rfl ?_
   obtain ⟨x_3, hx4, h⟩ := bnd h
   refine gt rfl <| a1 (v := (.c (.ref 0 1 i_.toNat 0))) (s_iaddrL rfl rfl hzb hx4) <| gt rfl <| a1 (v := (.c (.val (.int .u8 x_3)))) (s_loadL (z := zb) (e := (eK .u8)) rfl rfl hzb hx4 rfl rfl) <| gt rfl <| a1 (v := (B (decide (x_3 ≤ 90)))) rfl <| un1 (v := (B (decide (x_3 ≤ 90)))) rfl <| dnil ?_
   exact Sv.weak (wcn [0] rfl (.cf rfl rfl (.cf rfl rfl (.cons rfl (.c (lsr rfl rfl)) .nil))) (.row (by decide) rfl (fr_map fun _ => rfl) .nil)) (Z8m hzb h hself hK0 hr)
  ·repeat (first | refine gu rfl ?_ | refine gs rfl rfl ?_)
   refine un1 (v := (B false)) rfl <| dnil ?_
   exact Sv.weak (wcn [0] rfl (.cf rfl rfl (.cf rfl rfl (.cons rfl (.c (lsr rfl rfl)) .nil))) (.row (by decide) rfl (fr_map fun _ => rfl) .nil)) (Z8m hzb h hself hK0 hr)
 ·refine Sv.exit ?_
  exact hK0 b_ zb hzb h _ (wcn [0] rfl (.cons rfl (.c (lsr rfl rfl)) .nil) (.row (by decide) rfl (fr_map fun _ => rfl) .nil))
/-- clerestory/clerestoryref2.Lower -/
noncomputable def Z3u (s_ : Tx) : Option Tx :=
 lim fun kk => Z10 (fun (b_1 : (List Int)) => 
   some (byts b_1)) kk (ints s_) 0
theorem Zct {mL : Int} {s_ : Tx} {r : Tx} (h : Z3u s_ = some r) : CPure Tryz.prog (GG mL) 120 [(S s_)] (S r) := by
 refine acalls_of_sv hmix c120 (R := Z4l r) ?_
 unfold Z3u at h
 refine ssr <| un1 rfl <| dnil <| ssr <| un1 rfl <| un <| a2v (v := (lstV false 0 1 (ints s_).length)) (h' := upd _ 0 (lstB false 1 ((ints s_).map (eK .u8)))) (n' := 1) rfl (s_toBytes rfl) hcs <| un1 rfl <| dnil <| Sv.seq <| ssr <| un1 rfl <| dnil <| Sv.block ?_
 obtain ⟨kk, h⟩ := lim_some h
 refine Sv.weak (wcn [0] rfl (.cf rfl rfl (.cons rfl (.c (lsr rfl rfl)) .nil)) (.row (by decide) rfl (fr_map fun _ => rfl) .nil)) (Zcs hcs h ?_ (fun s hs => hs))
 ·intro b_1 zb_1 hzb_1 h _ hw1
  refine Sv.weak hw1 <| ssr <| un1 rfl <| un1 (v := (S (byts b_1))) (s_ofBytes (xs := b_1) rfl (slc_lst rfl (List.length_map _).symm (map_nil_of hzb_1))) <| un1 rfl <| dnil <| Sv.ret ?_
  exact rt0 h rfl rfl ⟨rfl, rfl, rfl⟩
def a165_c0 : ACode := (sr [(oP 41 (.load true 4 (.tmp 7))), (oN (.store 4 (.tmp 6) (.tmp 41)))]
 .ret)
def a165 : AFunc := ⟨3, [(.cell true 4 6)], (sr [(oP 6 (.box (.const (.agg [(.val (.int .i64 0)), (.str []), (.str []), (.val (.int .i64 0))]))))]
 (sr [(mV 10 0), (mV 11 2), (oP 12 (.slStr (.tmp 10) none (some (.tmp 11)))), (mV 13 1), (oP 14 (.build [(.val (.int .i64 0)), (.str []), (.str []), (.val (.int .i64 0))] [(0, (1, (kI 7))), (1, (1, (.tmp 12))), (3, (1, (.tmp 13)))])), (oP 7 (.box (.const (.agg [(.val (.int .i64 0)), (.str []), (.str []), (.val (.int .i64 0))])))), (oN (.store 4 (.tmp 7) (.tmp 14)))]
 (.seq (sr [(mV 15 0), (mV 16 2), (oP 17 (.call 161 [(.tmp 15), (.tmp 16)])), (oP 18 (.bin .eql (.tmp 17) (.const (.c (.val (.int .u8 37))))))]
 (.cond (.tmp 18) (sr [(mV 19 0), (mV 20 2), (oP 21 (.bin .add (.tmp 20) (kI 1))), (oP 22 (.slStr (.tmp 19) none (some (.tmp 21)))), (oP 23 (.faddr 1 (.tmp 7))), (oN (.store 1 (.tmp 23) (.tmp 22)))]
 (.region [(oP 24 (.faddr 2 (.tmp 7))), (oN (.store 1 (.tmp 24) (.const (.c (.str [37])))))])) (sr [(mV 25 0), (mV 26 2), (oP 27 (.call 169 [(.tmp 25), (.tmp 26)]))]
 (.cond (.tmp 27) (sr [(mV 29 0), (mV 30 2), (oP 31 (.call 168 [(.tmp 29), (.tmp 30)])), (mV 28 31), (oP 32 (.ext (.tmp 28) 0)), (oP 33 (.ext (.tmp 28) 1)), (mV 8 32), (mV 9 33)]
 (sr [(mV 34 0), (mV 35 9), (oP 36 (.slStr (.tmp 34) none (some (.tmp 35)))), (oP 37 (.faddr 1 (.tmp 7))), (oN (.store 1 (.tmp 37) (.tmp 36)))]
 (.region [(mV 38 8), (oP 39 (.call 120 [(.tmp 38)])), (oP 40 (.faddr 2 (.tmp 7))), (oN (.store 1 (.tmp 40) (.tmp 39)))]))) .skip))))
 a165_c0)))⟩
theorem c165 : compFunc Tryz.prog 165 = some a165 := by kernel_rfl
def Z8o (r : TSToken) : AV → Heap → Nat → Prop := fun v h' n' => v = (.agg (e_TSToken r)) ∧ (h' = e0) ∧ n' = 0
noncomputable def Z2t (n_ : Int) (t1 : Tx) (t2 : Tx) : Option TSToken :=
 some (⟨7, t1, t2, n_⟩ : TSToken)
theorem Z5q {mL : Int} {n_ : Int} {t1 : Tx} {t2 : Tx} {o : TSToken} (h : Z2t n_ t1 t2 = some o) :
  Sv Tryz.prog (GG mL) 0 a165_c0 (Ends a165.results 0 (Z8o o)) ⟨(ue [(7, (.c (.ref 1 4 0 0))), (6, (.c (.ref 0 4 0 0)))]), (upd (upd e0 0 (some (.cells 4 [[cI 0, .str [], .str [], cI 0]]))) 1 (some (.cells 4 [[cI 7, .str t1, .str t2, cI n_]]))), 2⟩ := by
 unfold Z2t at h
 refine ssr <| un1 (v := (.agg [cI 7, .str t1, .str t2, cI n_])) rfl <| un <| a2n (h' := upd _ 0 (some (.cells 4 [[cI 7, .str t1, .str t2, cI n_]]))) (n' := 2) rfl rfl hcs <| dnil <| Sv.ret ?_
 exact rt0 h rfl rfl ⟨rfl, rfl, rfl⟩
/-- clerestory/clerestoryref2.numAt -/
noncomputable def Z3v (s_ : Tx) (n_ : Int) (end_ : Int) : Option TSToken :=
 (sub? s_ 0 end_).bind fun r_ =>
 (Z6 s_ end_).bind fun r_1 =>
 if decide (r_1 = 37) then
  (sub? s_ 0 (wi (end_ + 1))).bind fun r_2 =>
  Z2t n_ r_2 [37]
 else
  (Z1u s_ end_).bind fun r_3 =>
  if r_3 then
   (Z1a s_ end_).bind fun r_4 =>
   (sub? s_ 0 r_4.2).bind fun r_5 =>
   (Z3u r_4.1).bind fun r_6 =>
   Z2t n_ r_5 r_6
  else
   Z2t n_ r_ []
theorem Zcu {mL : Int} {s_ : Tx} {n_ : Int} {end_ : Int} {r : TSToken} (h : Z3v s_ n_ end_ = some r) : CPure Tryz.prog (GG mL) 165 [(S s_), (I n_), (I end_)] (.agg (e_TSToken r)) := by
 refine acalls_of_sv hmix c165 (R := Z8o r) ?_
 unfold Z3v at h
 refine ssr <| un <| a2v (v := (.c (.ref 0 4 0 0))) (h' := upd _ 0 (some (.cells 4 [[cI 0, .str [], .str [], cI 0]]))) (n' := 1) rfl rfl hcs <| dnil <| ssr <| un1 rfl <| un1 rfl ?_
 obtain ⟨r_, hx1, h⟩ := bnd h
 refine un1 (v := (S r_)) (s_slStr rfl rfl rfl hx1) <| un1 rfl <| un1 (v := (.agg [cI 7, .str r_, .str [], cI n_])) rfl <| un <| a2v (v := (.c (.ref 1 4 0 0))) (h' := upd _ 1 (some (.cells 4 [[cI 0, .str [], .str [], cI 0]]))) (n' := 2) rfl rfl hcs <| un <| a2n (h' := upd _ 1 (some (.cells 4 [[cI 7, .str r_, .str [], cI n_]]))) (n' := 2) rfl rfl hcs <| dnil <| Sv.seq <| ssr <| un1 rfl <| un1 rfl ?_
 obtain ⟨r_1, hr1, h⟩ := bnd h
 refine un <| ac_pure (Z18 hr1) rfl rfl rfl <| un1 (v := (B (decide (r_1 = 37)))) rfl <| dnil ?_
 refine Sv.cnd rfl h (fun h => ?_) fun h => ?_
 ·refine ssr <| un1 rfl <| un1 rfl <| un1 (v := (I (wi (end_ + 1)))) rfl ?_
  obtain ⟨r_2, hx2, h⟩ := bnd h
  refine un1 (v := (S r_2)) (s_slStr rfl rfl rfl hx2) <| un1 (v := (.c (.ref 1 4 0 1))) rfl <| un <| a2n (h' := upd _ 1 (some (.cells 4 [[cI 7, .str r_2, .str [], cI n_]]))) (n' := 2) rfl rfl hcs <| dnil <| srg <| un1 (v := (.c (.ref 1 4 0 2))) rfl <| un <| a2n (h' := upd _ 1 (some (.cells 4 [[cI 7, .str r_2, .str [37], cI n_]]))) (n' := 2) rfl rfl hcs <| dnil ?_
  exact Sv.weak (wcn [0, 1] rfl (.cr rfl rfl rfl (.cr rfl rfl rfl .nil)) (.box (by decide) rfl (blkAs_cells (.sm rfl (.sm rfl (.sm rfl (.sm rfl .nil))))) (.box (by decide) rfl (blkAs_cells (.sm rfl (.sm rfl (.sm rfl (.sm rfl .nil))))) .nil))) (Z5q h)
 ·refine ssr <| un1 rfl <| un1 rfl ?_
  obtain ⟨r_3, hr2, h⟩ := bnd h
  refine un <| ac_pure (Z5k hr2) rfl rfl rfl <| dnil ?_
  refine Sv.cnd rfl h (fun h => ?_) fun h => ?_
  ·refine ssr <| un1 rfl <| un1 rfl ?_
   obtain ⟨r_4, hr3, h⟩ := bnd h
   refine un <| ac_pure (Z4k hr3) rfl rfl rfl <| un1 rfl <| un1 (v := (S r_4.1)) rfl <| un1 (v := (I r_4.2)) rfl <| un1 rfl <| un1 rfl <| dnil <| ssr <| un1 rfl <| un1 rfl ?_
   obtain ⟨r_5, hx3, h⟩ := bnd h
   refine un1 (v := (S r_5)) (s_slStr rfl rfl rfl hx3) <| un1 (v := (.c (.ref 1 4 0 1))) rfl <| un <| a2n (h' := upd _ 1 (some (.cells 4 [[cI 7, .str r_5, .str [], cI n_]]))) (n' := 2) rfl rfl hcs <| dnil <| srg <| un1 rfl ?_
   obtain ⟨r_6, hr4, h⟩ := bnd h
   refine un <| ac_pure (Zct hr4) rfl rfl rfl <| un1 (v := (.c (.ref 1 4 0 2))) rfl <| un <| a2n (h' := upd _ 1 (some (.cells 4 [[cI 7, .str r_5, .str r_6, cI n_]]))) (n' := 2) rfl rfl hcs <| dnil ?_
   exact Sv.weak (wcn [0, 1] rfl (.cr rfl rfl rfl (.cr rfl rfl rfl .nil)) (.box (by decide) rfl (blkAs_cells (.sm rfl (.sm rfl (.sm rfl (.sm rfl .nil))))) (.box (by decide) rfl (blkAs_cells (.sm rfl (.sm rfl (.sm rfl (.sm rfl .nil))))) .nil))) (Z5q h)
  ·refine Sv.skip ?_
   exact Sv.weak (wcn [0, 1] rfl (.cr rfl rfl rfl (.cr rfl rfl rfl .nil)) (.box (by decide) rfl (blkAs_cells (.sm rfl (.sm rfl (.sm rfl (.sm rfl .nil))))) (.box (by decide) rfl (blkAs_cells (.sm rfl (.sm rfl (.sm rfl (.sm rfl .nil))))) .nil))) (Z5q h)
def a110_c0 : ACode := (.cond (.tmp 27) .skip (.exit 0))
def a110_c1 : ACode := (.block 1 (.region [(mV 28 4), (oP 29 (.bin .add (.tmp 28) (kI 1))), (mV 4 29)]))
def a110_c2 : ACode := (.seq (sr [(mV 18 4), (mV 19 0), (oP 20 (.lenS (.tmp 19))), (oP 21 (.bin .lss (.tmp 18) (.tmp 20))), (mV 22 21), ⟨(some 23), (.mov (.tmp 0)), (some (22, true))⟩, ⟨(some 24), (.mov (.tmp 4)), (some (22, true))⟩, ⟨(some 25), (.idxS (.tmp 23) (.tmp 24)), (some (22, true))⟩, ⟨(some 26), (.call 160 [(.tmp 25)]), (some (22, true))⟩, (oP 27 (.pick (.tmp 22) (.tmp 26) kF))]
 a110_c0)
 a110_c1)
def a110_c3 : ACode := (.cond (.tmp 40) (sr [(mV 41 0), (oP 42 (.call 162 [(.tmp 41)])), (oN (.store 4 (.tmp 2) (.tmp 42)))]
 .ret) .skip)
def a110_c4 : ACode := (.cond (.tmp 77) (sr [(mV 79 0), (oP 80 (.call 168 [(.tmp 79), (kI 1)])), (mV 78 80), (oP 81 (.ext (.tmp 78) 0)), (oP 82 (.ext (.tmp 78) 1)), (mV 7 81), (mV 8 82)]
 (sr [(mV 83 0), (mV 84 8), (oP 85 (.slStr (.tmp 83) none (some (.tmp 84)))), (mV 86 7), (oP 87 (.build [(.val (.int .i64 0)), (.str []), (.str []), (.val (.int .i64 0))] [(0, (1, (kI 4))), (1, (1, (.tmp 85))), (2, (1, (.tmp 86)))])), (oN (.store 4 (.tmp 2) (.tmp 87)))]
 .ret)) .skip)
def a110_c5 : ACode := (.cond (.tmp 93) (sr [(mV 95 0), (oP 96 (.call 168 [(.tmp 95), (kI 1)])), (mV 94 96), (oP 97 (.ext (.tmp 94) 0)), (oP 98 (.ext (.tmp 94) 1)), (mV 9 97), (mV 10 98)]
 (sr [(mV 99 0), (mV 100 10), (oP 101 (.slStr (.tmp 99) none (some (.tmp 100)))), (mV 102 9), (oP 103 (.build [(.val (.int .i64 0)), (.str []), (.str []), (.val (.int .i64 0))] [(0, (1, (kI 3))), (1, (1, (.tmp 101))), (2, (1, (.tmp 102)))])), (oN (.store 4 (.tmp 2) (.tmp 103)))]
 .ret)) .skip)
def a110_c8 : ACode := (sr [(mV 148 13), (mV 149 0), (oP 150 (.slStr (.tmp 149) none (some (kI 1)))), (oP 151 (.build [(.val (.int .i64 0)), (.str []), (.str []), (.val (.int .i64 0))] [(0, (1, (.tmp 148))), (1, (1, (.tmp 150)))])), (oN (.store 4 (.tmp 2) (.tmp 151)))]
 .ret)
def a110_c7 : ACode := (.seq (sr [(mV 146 3), (oP 147 (.bin .eql (.tmp 146) (.const (.c (.val (.int .u8 92))))))]
 (.cond (.tmp 147) (.region [(oP 13 (.mov (kI 6)))]) .skip))
 a110_c8)
def a110_c6 : ACode := (.seq (sr [(mV 136 3), (oP 137 (.bin .eql (.tmp 136) (.const (.c (.val (.int .u8 41)))))), (mV 138 137), ⟨(some 139), (.mov (.tmp 3)), (some (138, false))⟩, ⟨(some 140), (.bin .eql (.tmp 139) (.const (.c (.val (.int .u8 93))))), (some (138, false))⟩, (oP 141 (.pick (.tmp 138) kT (.tmp 140))), (mV 142 141), ⟨(some 143), (.mov (.tmp 3)), (some (142, false))⟩, ⟨(some 144), (.bin .eql (.tmp 143) (.const (.c (.val (.int .u8 125))))), (some (142, false))⟩, (oP 145 (.pick (.tmp 142) kT (.tmp 144)))]
 (.cond (.tmp 145) (.region [(oP 13 (.mov (kI 11)))]) .skip))
 a110_c7)
def a110_c9 : ACode := (.seq (sr [(mV 104 0), (oP 105 (.call 169 [(.tmp 104), (kI 0)]))]
 (.cond (.tmp 105) (sr [(mV 107 0), (oP 108 (.call 168 [(.tmp 107), (kI 0)])), (mV 106 108), (oP 109 (.ext (.tmp 106) 0)), (oP 110 (.ext (.tmp 106) 1)), (mV 11 109), (mV 12 110)]
 (.seq (sr [(mV 111 0), (mV 112 12), (oP 113 (.call 161 [(.tmp 111), (.tmp 112)])), (oP 114 (.bin .eql (.tmp 113) (.const (.c (.val (.int .u8 40))))))]
 (.cond (.tmp 114) (sr [(mV 115 0), (mV 116 12), (oP 117 (.bin .add (.tmp 116) (kI 1))), (oP 118 (.slStr (.tmp 115) none (some (.tmp 117)))), (mV 119 11), (oP 120 (.build [(.val (.int .i64 0)), (.str []), (.str []), (.val (.int .i64 0))] [(0, (1, (kI 2))), (1, (1, (.tmp 118))), (2, (1, (.tmp 119)))])), (oN (.store 4 (.tmp 2) (.tmp 120)))]
 .ret) .skip))
 (sr [(mV 121 0), (mV 122 12), (oP 123 (.slStr (.tmp 121) none (some (.tmp 122)))), (mV 124 11), (oP 125 (.build [(.val (.int .i64 0)), (.str []), (.str []), (.val (.int .i64 0))] [(0, (1, (kI 1))), (1, (1, (.tmp 123))), (2, (1, (.tmp 124)))])), (oN (.store 4 (.tmp 2) (.tmp 125)))]
 .ret))) .skip))
 (sr [(oP 13 (.mov (kI 12)))]
 (.seq (sr [(mV 126 3), (oP 127 (.bin .eql (.tmp 126) (.const (.c (.val (.int .u8 40)))))), (mV 128 127), ⟨(some 129), (.mov (.tmp 3)), (some (128, false))⟩, ⟨(some 130), (.bin .eql (.tmp 129) (.const (.c (.val (.int .u8 91))))), (some (128, false))⟩, (oP 131 (.pick (.tmp 128) kT (.tmp 130))), (mV 132 131), ⟨(some 133), (.mov (.tmp 3)), (some (132, false))⟩, ⟨(some 134), (.bin .eql (.tmp 133) (.const (.c (.val (.int .u8 123))))), (some (132, false))⟩, (oP 135 (.pick (.tmp 132) kT (.tmp 134)))]
 (.cond (.tmp 135) (.region [(oP 13 (.mov (kI 10)))]) .skip))
 a110_c6)))
def a110_c10 : ACode := (.seq (sr [(mV 88 3), (oP 89 (.bin .eql (.tmp 88) (.const (.c (.val (.int .u8 64)))))), (mV 90 89), ⟨(some 91), (.mov (.tmp 0)), (some (90, true))⟩, ⟨(some 92), (.call 169 [(.tmp 91), (kI 1)]), (some (90, true))⟩, (oP 93 (.pick (.tmp 90) (.tmp 92) kF))]
 a110_c5)
 a110_c9)
def a110_c11 : ACode := (.seq (sr [(mV 43 3), (oP 44 (.bin .eql (.tmp 43) (.const (.c (.val (.int .u8 39)))))), (mV 45 44), ⟨(some 46), (.mov (.tmp 3)), (some (45, false))⟩, ⟨(some 47), (.bin .eql (.tmp 46) (.const (.c (.val (.int .u8 34))))), (some (45, false))⟩, (oP 48 (.pick (.tmp 45) kT (.tmp 47)))]
 (.cond (.tmp 48) (sr [(mV 49 0), (oP 50 (.call 163 [(.tmp 49)])), (oN (.store 4 (.tmp 2) (.tmp 50)))]
 .ret) .skip))
 (sr [(mV 52 0), (oP 53 (.call 164 [(.tmp 52)])), (mV 51 53), (oP 54 (.ext (.tmp 51) 0)), (oP 55 (.ext (.tmp 51) 1)), (mV 5 54), (mV 6 55)]
 (.seq (sr [(mV 56 6), (oP 57 (.bin .gtr (.tmp 56) (kI 0)))]
 (.cond (.tmp 57) (sr [(mV 58 0), (mV 59 5), (mV 60 6), (oP 61 (.call 165 [(.tmp 58), (.tmp 59), (.tmp 60)])), (oN (.store 4 (.tmp 2) (.tmp 61)))]
 .ret) .skip))
 (.seq (sr [(mV 62 3), (oP 63 (.bin .eql (.tmp 62) (.const (.c (.val (.int .u8 35)))))), (mV 64 63), ⟨(some 65), (.mov (.tmp 0)), (some (64, true))⟩, ⟨(some 66), (.call 161 [(.tmp 65), (kI 1)]), (some (64, true))⟩, ⟨(some 67), (.call 166 [(.tmp 66)]), (some (64, true))⟩, ⟨(some 68), (.mov (.tmp 67)), (some (64, true))⟩, ⟨(some 69), (.mov (.tmp 0)), (some (68, true))⟩, ⟨(some 70), (.lenS (.tmp 69)), (some (68, true))⟩, ⟨(some 71), (.bin .gtr (.tmp 70) (kI 1)), (some (68, true))⟩, ⟨(some 72), (.pick (.tmp 68) (.tmp 71) kF), (some (64, true))⟩, ⟨(some 73), (.mov (.tmp 72)), (some (64, true))⟩, ⟨(some 74), (.mov (.tmp 0)), (some (73, false))⟩, ⟨(some 75), (.call 167 [(.tmp 74), (kI 1)]), (some (73, false))⟩, ⟨(some 76), (.pick (.tmp 73) kT (.tmp 75)), (some (64, true))⟩, (oP 77 (.pick (.tmp 64) (.tmp 76) kF))]
 a110_c4)
 a110_c10))))
def a110 : AFunc := ⟨1, [(.cell true 4 2)], (sr [(oP 2 (.box (.const (.agg [(.val (.int .i64 0)), (.str []), (.str []), (.val (.int .i64 0))]))))]
 (sr [(mV 14 0), (oP 15 (.idxS (.tmp 14) (kI 0))), (mV 3 15)]
 (.seq (sr [(mV 16 3), (oP 17 (.call 160 [(.tmp 16)]))]
 (.cond (.tmp 17) (sr [(oP 4 (.mov (kI 0)))]
 (.seq (.block 0 (.loop a110_c2))
 (sr [(mV 30 0), (mV 31 4), (oP 32 (.slStr (.tmp 30) none (some (.tmp 31)))), (oP 33 (.build [(.val (.int .i64 0)), (.str []), (.str []), (.val (.int .i64 0))] [(0, (1, (kI 8))), (1, (1, (.tmp 32)))])), (oN (.store 4 (.tmp 2) (.tmp 33)))]
 .ret))) .skip))
 (.seq (sr [(mV 34 3), (oP 35 (.bin .eql (.tmp 34) (.const (.c (.val (.int .u8 47)))))), (mV 36 35), ⟨(some 37), (.mov (.tmp 0)), (some (36, true))⟩, ⟨(some 38), (.call 161 [(.tmp 37), (kI 1)]), (some (36, true))⟩, ⟨(some 39), (.bin .eql (.tmp 38) (.const (.c (.val (.int .u8 42))))), (some (36, true))⟩, (oP 40 (.pick (.tmp 36) (.tmp 39) kF))]
 a110_c3)
 a110_c11))))⟩
theorem c110 : compFunc Tryz.prog 110 = some a110 := by kernel_rfl
def Zf (r : TSToken) : AV → Heap → Nat → Prop := fun v h' n' => v = (.agg (e_TSToken r)) ∧ (h' = e0) ∧ n' = 0
abbrev Zcv (mL : Int) (Q : AExit → St → Prop) : AExit → St → Prop := AThen (Sv Tryz.prog (GG mL) 0 a110_c1 Q) Q
abbrev Z8p (s_ : Tx) (F_ : Int → Option TSToken) (o : TSToken) (R_ : St → Prop) : Prop := ∀ (i_ : Int), F_ i_ = some o → ∀ s, Weak 0 s ⟨(ue [(4, (I i_)), (2, (.c (.ref 0 4 0 0))), (0, (S s_))]), (upd e0 0 (some (.cells 4 [[cI 0, .str [], .str [], cI 0]]))), 1⟩ → R_ s
abbrev Z8q (s_ : Tx) (F_ : Int → Option TSToken) (o : TSToken) (R_ : St → Prop) : Prop := ∀ (i_1 : Int), F_ i_1 = some o → ∀ s, Weak 0 s ⟨(ue [(4, (I i_1)), (2, (.c (.ref 0 4 0 0))), (0, (S s_))]), (upd e0 0 (some (.cells 4 [[cI 0, .str [], .str [], cI 0]]))), 1⟩ → R_ s
noncomputable def Z3w (i_ : Int) (s_ : Tx) (self : Int → Option TSToken) (K0_ : Int → Option TSToken) (v27 : Bool) : Option TSToken :=
 if v27 then
  self (wi (i_ + 1))
 else
  K0_ i_
theorem Z8r {mL : Int} {Q : AExit → St → Prop} {i_ : Int} {s_ : Tx} {self : Int → Option TSToken} {K0_ : Int → Option TSToken} {v27 : Bool} {o : TSToken} (h : Z3w i_ s_ self K0_ v27 = some o)
  (hself : Z8p s_ self o (Q .normal))
  (hK0 : Z8q s_ K0_ o (Q (.exit 0)))
  (hr : ∀ s, Ends a110.results 0 (Zf o) .ret s → Q .ret s) :
  Sv Tryz.prog (GG mL) 0 a110_c0 (Zcv mL Q) ⟨(ue [(27, (B v27)), (4, (I i_)), (2, (.c (.ref 0 4 0 0))), (0, (S s_))]), (upd e0 0 (some (.cells 4 [[cI 0, .str [], .str [], cI 0]]))), 1⟩ := by
 unfold Z3w at h
 refine Sv.cnd rfl h (fun h => ?_) fun h => ?_
 ·refine Sv.skip <| Sv.block <| srg <| un1 rfl <| un1 (v := (I (wi (i_ + 1)))) rfl <| un1 rfl <| dnil ?_
  exact hself (wi (i_ + 1)) h _ (wcn [0] rfl (.cf rfl rfl (.cr rfl rfl rfl (.cf rfl rfl .nil))) (.box (by decide) rfl (blkAs_cells (.sm rfl (.sm rfl (.sm rfl (.sm rfl .nil))))) .nil))
 ·refine Sv.exit ?_
  exact hK0 i_ h _ (wcn [0] rfl (.cf rfl rfl (.cr rfl rfl rfl (.cf rfl rfl .nil))) (.box (by decide) rfl (blkAs_cells (.sm rfl (.sm rfl (.sm rfl (.sm rfl .nil))))) .nil))
abbrev Z8s (s_ : Tx) (F_ : Nat → Int → Option TSToken) (o : TSToken) : Nat → St → Prop := fun k s => ∃ (i_ : Int), F_ k i_ = some o ∧ s = ⟨(ue [(4, (I i_)), (2, (.c (.ref 0 4 0 0))), (0, (S s_))]), (upd e0 0 (some (.cells 4 [[cI 0, .str [], .str [], cI 0]]))), 1⟩
noncomputable def Z11 (s_ : Tx) (K0_ : Int → Option TSToken) : Nat → Int → Option TSToken
 | 0, _ => none
 | k + 1, i_ =>
  if decide (i_ < (s_.length : Int)) then
   (at? s_ i_).bind fun c_1 =>
   Z3w i_ s_ (Z11 s_ K0_ k) K0_ (Z1g (c_1.toNat : Int))
  else
   Z3w i_ s_ (Z11 s_ K0_ k) K0_ false
theorem Zcw {mL : Int} {Q : AExit → St → Prop} {s_ : Tx} {K0_ : Int → Option TSToken} {k : Nat} {i_ : Int} {o : TSToken} (h : Z11 s_ K0_ k i_ = some o)
  (hK0 : Z8q s_ K0_ o (Q (.exit 0)))
  (hr : ∀ s, Ends a110.results 0 (Zf o) .ret s → Q .ret s) :
  Sv Tryz.prog (GG mL) 0 (.loop a110_c2) Q ⟨(ue [(4, (I i_)), (2, (.c (.ref 0 4 0 0))), (0, (S s_))]), (upd e0 0 (some (.cells 4 [[cI 0, .str [], .str [], cI 0]]))), 1⟩ := by
 refine Sv.loop (I := Z8s s_ (Z11 s_ K0_) o) (fun k s hI => ?_) ⟨i_, h, rfl⟩
 clear h
 clear i_
 obtain ⟨i_, h, rfl⟩ := hI
 cases k with
 | zero => cases h
 | succ k =>
 rw [Z11] at h
 have hself : Z8p s_ (Z11 s_ K0_ k) o (rnd 0 (Z8s s_ (Z11 s_ K0_) o) k Q) := fun i_ h s hw => ⟨_, k, hw, Nat.lt_succ_self k, i_, h, rfl⟩
 refine Sv.seq <| ssr <| un1 rfl <| un1 rfl <| un1 (v := (I (s_.length : Int))) rfl <| un1 (v := (B (decide (i_ < (s_.length : Int))))) rfl <| un1 rfl ?_
 refine spl h (fun h => ?_) fun h => ?_
 ·refine gt rfl <| a1 rfl <| gt rfl <| a1 rfl ?_
  obtain ⟨c_1, hx2, h⟩ := bnd h
  refine gt rfl <| a1 (v := (.c (.val (.int .u8 (c_1.toNat : Int))))) (s_idxS rfl rfl hx2) <| gt rfl <| ac_pure (Z7v (mL := mL) (c_1.toNat : Int)) rfl rfl rfl <| un1 (v := (B (Z1g (c_1.toNat : Int)))) rfl <| dnil ?_
  exact Sv.weak (wcn [0] rfl (.cf rfl rfl (.cf rfl rfl (.cr rfl rfl rfl (.cf rfl rfl .nil)))) (.box (by decide) rfl (blkAs_cells (.sm rfl (.sm rfl (.sm rfl (.sm rfl .nil))))) .nil)) (Z8r h hself hK0 hr)
 ·refine gs rfl rfl <| gs rfl rfl <| gs rfl rfl <| gs rfl rfl <| un1 (v := (B false)) rfl <| dnil ?_
  exact Sv.weak (wcn [0] rfl (.cf rfl rfl (.cf rfl rfl (.cr rfl rfl rfl (.cf rfl rfl .nil)))) (.box (by decide) rfl (blkAs_cells (.sm rfl (.sm rfl (.sm rfl (.sm rfl .nil))))) .nil)) (Z8r h hself hK0 hr)
noncomputable def Z3x (s_ : Tx) (kind2 : Int) : Option TSToken :=
 (sub? s_ 0 1).bind fun r_14 =>
 some (⟨kind2, r_14, [], 0⟩ : TSToken)
theorem Z8t {mL : Int} {s_ : Tx} {kind2 : Int} {o : TSToken} (h : Z3x s_ kind2 = some o) :
  Sv Tryz.prog (GG mL) 0 a110_c8 (Ends a110.results 0 (Zf o)) ⟨(ue [(13, (I kind2)), (2, (.c (.ref 0 4 0 0))), (0, (S s_))]), (upd e0 0 (some (.cells 4 [[cI 0, .str [], .str [], cI 0]]))), 1⟩ := by
 unfold Z3x at h
 refine ssr <| un1 rfl <| un1 rfl ?_
 obtain ⟨r_14, hx8, h⟩ := bnd h
 refine un1 (v := (S r_14)) (s_slStr rfl rfl rfl hx8) <| un1 (v := (.agg [cI kind2, .str r_14, .str [], cI 0])) rfl <| un <| a2n (h' := upd _ 0 (some (.cells 4 [[cI kind2, .str r_14, .str [], cI 0]]))) (n' := 1) rfl rfl hcs <| dnil <| Sv.ret ?_
 exact rt0 h rfl rfl ⟨rfl, rfl, rfl⟩
noncomputable def Z3y (c_ : UInt8) (s_ : Tx) (kind1 : Int) : Option TSToken :=
 if decide ((c_.toNat : Int) = 92) then
  Z3x s_ 6
 else
  Z3x s_ kind1
theorem Z8u {mL : Int} {c_ : UInt8} {s_ : Tx} {kind1 : Int} {o : TSToken} (h : Z3y c_ s_ kind1 = some o) :
  Sv Tryz.prog (GG mL) 0 a110_c7 (Ends a110.results 0 (Zf o)) ⟨(ue [(13, (I kind1)), (3, (.c (.val (.int .u8 (c_.toNat : Int))))), (2, (.c (.ref 0 4 0 0))), (0, (S s_))]), (upd e0 0 (some (.cells 4 [[cI 0, .str [], .str [], cI 0]]))), 1⟩ := by
 unfold Z3y at h
 refine Sv.seq <| ssr <| un1 rfl <| un1 (v := (B (decide ((c_.toNat : Int) = 92)))) rfl <| dnil ?_
 refine Sv.cnd rfl h (fun h => ?_) fun h => ?_
 ·refine srg <| un1 rfl <| dnil ?_
  exact Sv.weak (wcn [0] rfl (.cf rfl rfl (.cr rfl rfl rfl (.cf rfl rfl .nil))) (.box (by decide) rfl (blkAs_cells (.sm rfl (.sm rfl (.sm rfl (.sm rfl .nil))))) .nil)) (Z8t h)
 ·refine Sv.skip ?_
  exact Sv.weak (wcn [0] rfl (.cf rfl rfl (.cr rfl rfl rfl (.cf rfl rfl .nil))) (.box (by decide) rfl (blkAs_cells (.sm rfl (.sm rfl (.sm rfl (.sm rfl .nil))))) .nil)) (Z8t h)
noncomputable def Z1v (c_ : UInt8) (s_ : Tx) (kind : Int) : Option TSToken :=
 if (((decide ((c_.toNat : Int) = 41)) || (decide ((c_.toNat : Int) = 93))) || (decide ((c_.toNat : Int) = 125))) then
  Z3y c_ s_ 11
 else
  Z3y c_ s_ kind
theorem Z8v {mL : Int} {c_ : UInt8} {s_ : Tx} {kind : Int} {o : TSToken} (h : Z1v c_ s_ kind = some o) :
  Sv Tryz.prog (GG mL) 0 a110_c6 (Ends a110.results 0 (Zf o)) ⟨(ue [(13, (I kind)), (3, (.c (.val (.int .u8 (c_.toNat : Int))))), (2, (.c (.ref 0 4 0 0))), (0, (S s_))]), (upd e0 0 (some (.cells 4 [[cI 0, .str [], .str [], cI 0]]))), 1⟩ := by
 unfold Z1v at h
 refine Sv.seq <| ssr <| un1 rfl <| un1 (v := (B (decide ((c_.toNat : Int) = 41)))) rfl <| un1 rfl ?_
 refine gjoin 3 (d := 141) (v := (B ((decide ((c_.toNat : Int) = 41)) || (decide ((c_.toNat : Int) = 93))))) (fun X hX => ?_) ?_
 ·refine split2 (fun hc13 => ?_) (fun hc13 => ?_)
  ·refine gs rfl rfl <| gs rfl rfl <| un1 (v := (B true)) rfl <| dnil ?_
   exact hX _ (.putEq (by rw [hc13]; rfl) (.skp (.skp (.putEq (by rw [hc13]) (.refl _)) rfl) rfl))
  ·refine gt rfl <| a1 rfl <| gt rfl <| a1 (v := (B (decide ((c_.toNat : Int) = 93)))) rfl <| un1 (v := (B (decide ((c_.toNat : Int) = 93)))) rfl <| dnil ?_
   exact hX _ (.putEq (by rw [hc13]; rfl) (.skp (.skp (.putEq (by rw [hc13]) (.refl _)) rfl) rfl))
 refine un1 rfl ?_
 refine gjoin 3 (d := 145) (v := (B (((decide ((c_.toNat : Int) = 41)) || (decide ((c_.toNat : Int) = 93))) || (decide ((c_.toNat : Int) = 125))))) (fun X hX => ?_) ?_
 ·refine split2 (fun hc14 => ?_) (fun hc14 => ?_)
  ·refine gs rfl rfl <| gs rfl rfl <| un1 (v := (B true)) rfl <| dnil ?_
   exact hX _ (.putEq (by rw [hc14]; rfl) (.skp (.skp (.putEq (by rw [hc14]) (.refl _)) rfl) rfl))
  ·refine gt rfl <| a1 rfl <| gt rfl <| a1 (v := (B (decide ((c_.toNat : Int) = 125)))) rfl <| un1 (v := (B (decide ((c_.toNat : Int) = 125)))) rfl <| dnil ?_
   exact hX _ (.putEq (by rw [hc14]; rfl) (.skp (.skp (.putEq (by rw [hc14]) (.refl _)) rfl) rfl))
 refine dnil ?_
 refine Sv.cnd rfl h (fun h => ?_) fun h => ?_
 ·refine srg <| un1 rfl <| dnil ?_
  exact Sv.weak (wcn [0] rfl (.cf rfl rfl (.cf rfl rfl (.cr rfl rfl rfl (.cf rfl rfl .nil)))) (.box (by decide) rfl (blkAs_cells (.sm rfl (.sm rfl (.sm rfl (.sm rfl .nil))))) .nil)) (Z8u h)
 ·refine Sv.skip ?_
  exact Sv.weak (wcn [0] rfl (.cf rfl rfl (.cf rfl rfl (.cr rfl rfl rfl (.cf rfl rfl .nil)))) (.box (by decide) rfl (blkAs_cells (.sm rfl (.sm rfl (.sm rfl (.sm rfl .nil))))) .nil)) (Z8u h)
abbrev Zcx (mL : Int) (o : TSToken) : AExit → St → Prop := AThen (Sv Tryz.prog (GG mL) 0 a110_c9 (Ends a110.results 0 (Zf o))) (Ends a110.results 0 (Zf o))
noncomputable def Z2u (s_ : Tx) (c_ : UInt8) (v93 : Bool) : Option TSToken :=
 if v93 then
  (Z1a s_ 1).bind fun r_7 =>
  (sub? s_ 0 r_7.2).bind fun r_8 =>
  some (⟨3, r_8, r_7.1, 0⟩ : TSToken)
 else
  (Z1u s_ 0).bind fun r_9 =>
  if r_9 then
   (Z1a s_ 0).bind fun r_10 =>
   (Z6 s_ r_10.2).bind fun r_11 =>
   if decide (r_11 = 40) then
    (sub? s_ 0 (wi (r_10.2 + 1))).bind fun r_12 =>
    some (⟨2, r_12, r_10.1, 0⟩ : TSToken)
   else
    (sub? s_ 0 r_10.2).bind fun r_13 =>
    some (⟨1, r_13, r_10.1, 0⟩ : TSToken)
  else
   if (((decide ((c_.toNat : Int) = 40)) || (decide ((c_.toNat : Int) = 91))) || (decide ((c_.toNat : Int) = 123))) then
    Z1v c_ s_ 10
   else
    Z1v c_ s_ 12
theorem Z8w {mL : Int} {s_ : Tx} {c_ : UInt8} {v93 : Bool} {o : TSToken} (h : Z2u s_ c_ v93 = some o) :
  Sv Tryz.prog (GG mL) 0 a110_c5 (Zcx mL o) ⟨(ue [(93, (B v93)), (3, (.c (.val (.int .u8 (c_.toNat : Int))))), (2, (.c (.ref 0 4 0 0))), (0, (S s_))]), (upd e0 0 (some (.cells 4 [[cI 0, .str [], .str [], cI 0]]))), 1⟩ := by
 unfold Z2u at h
 refine Sv.cnd rfl h (fun h => ?_) fun h => ?_
 ·refine ssr <| un1 rfl ?_
  obtain ⟨r_7, hr6, h⟩ := bnd h
  refine un <| ac_pure (Z4k hr6) rfl rfl rfl <| un1 rfl <| un1 (v := (S r_7.1)) rfl <| un1 (v := (I r_7.2)) rfl <| un1 rfl <| un1 rfl <| dnil <| ssr <| un1 rfl <| un1 rfl ?_
  obtain ⟨r_8, hx5, h⟩ := bnd h
  refine un1 (v := (S r_8)) (s_slStr rfl rfl rfl hx5) <| un1 rfl <| un1 (v := (.agg [cI 3, .str r_8, .str r_7.1, cI 0])) rfl <| un <| a2n (h' := upd _ 0 (some (.cells 4 [[cI 3, .str r_8, .str r_7.1, cI 0]]))) (n' := 1) rfl rfl hcs <| dnil <| Sv.ret ?_
  exact rt0 h rfl rfl ⟨rfl, rfl, rfl⟩
 ·refine Sv.skip <| Sv.seq <| ssr <| un1 rfl ?_
  obtain ⟨r_9, hr7, h⟩ := bnd h
  refine un <| ac_pure (Z5k hr7) rfl rfl rfl <| dnil ?_
  refine Sv.cnd rfl h (fun h => ?_) fun h => ?_
  ·refine ssr <| un1 rfl ?_
   obtain ⟨r_10, hr8, h⟩ := bnd h
   refine un <| ac_pure (Z4k hr8) rfl rfl rfl <| un1 rfl <| un1 (v := (S r_10.1)) rfl <| un1 (v := (I r_10.2)) rfl <| un1 rfl <| un1 rfl <| dnil <| Sv.seq <| ssr <| un1 rfl <| un1 rfl ?_
   obtain ⟨r_11, hr9, h⟩ := bnd h
   refine un <| ac_pure (Z18 hr9) rfl rfl rfl <| un1 (v := (B (decide (r_11 = 40)))) rfl <| dnil ?_
   refine Sv.cnd rfl h (fun h => ?_) fun h => ?_
   ·refine ssr <| un1 rfl <| un1 rfl <| un1 (v := (I (wi (r_10.2 + 1)))) rfl ?_
    obtain ⟨r_12, hx6, h⟩ := bnd h
    refine un1 (v := (S r_12)) (s_slStr rfl rfl rfl hx6) <| un1 rfl <| un1 (v := (.agg [cI 2, .str r_12, .str r_10.1, cI 0])) rfl <| un <| a2n (h' := upd _ 0 (some (.cells 4 [[cI 2, .str r_12, .str r_10.1, cI 0]]))) (n' := 1) rfl rfl hcs <| dnil <| Sv.ret ?_
    exact rt0 h rfl rfl ⟨rfl, rfl, rfl⟩
   ·refine Sv.skip <| ssr <| un1 rfl <| un1 rfl ?_
    obtain ⟨r_13, hx7, h⟩ := bnd h
    refine un1 (v := (S r_13)) (s_slStr rfl rfl rfl hx7) <| un1 rfl <| un1 (v := (.agg [cI 1, .str r_13, .str r_10.1, cI 0])) rfl <| un <| a2n (h' := upd _ 0 (some (.cells 4 [[cI 1, .str r_13, .str r_10.1, cI 0]]))) (n' := 1) rfl rfl hcs <| dnil <| Sv.ret ?_
    exact rt0 h rfl rfl ⟨rfl, rfl, rfl⟩
  ·refine Sv.skip <| ssr <| un1 rfl <| dnil <| Sv.seq <| ssr <| un1 rfl <| un1 (v := (B (decide ((c_.toNat : Int) = 40)))) rfl <| un1 rfl ?_
   refine gjoin 3 (d := 131) (v := (B ((decide ((c_.toNat : Int) = 40)) || (decide ((c_.toNat : Int) = 91))))) (fun X hX => ?_) ?_
   ·refine split2 (fun hc16 => ?_) (fun hc16 => ?_)
    ·refine gs rfl rfl <| gs rfl rfl <| un1 (v := (B true)) rfl <| dnil ?_
     exact hX _ (.putEq (by rw [hc16]; rfl) (.skp (.skp (.putEq (by rw [hc16]) (.refl _)) rfl) rfl))
    ·refine gt rfl <| a1 rfl <| gt rfl <| a1 (v := (B (decide ((c_.toNat : Int) = 91)))) rfl <| un1 (v := (B (decide ((c_.toNat : Int) = 91)))) rfl <| dnil ?_
     exact hX _ (.putEq (by rw [hc16]; rfl) (.skp (.skp (.putEq (by rw [hc16]) (.refl _)) rfl) rfl))
   refine un1 rfl ?_
   refine gjoin 3 (d := 135) (v := (B (((decide ((c_.toNat : Int) = 40)) || (decide ((c_.toNat : Int) = 91))) || (decide ((c_.toNat : Int) = 123))))) (fun X hX => ?_) ?_
   ·refine split2 (fun hc17 => ?_) (fun hc17 => ?_)
    ·refine gs rfl rfl <| gs rfl rfl <| un1 (v := (B true)) rfl <| dnil ?_
     exact hX _ (.putEq (by rw [hc17]; rfl) (.skp (.skp (.putEq (by rw [hc17]) (.refl _)) rfl) rfl))
    ·refine gt rfl <| a1 rfl <| gt rfl <| a1 (v := (B (decide ((c_.toNat : Int) = 123)))) rfl <| un1 (v := (B (decide ((c_.toNat : Int) = 123)))) rfl <| dnil ?_
     exact hX _ (.putEq (by rw [hc17]; rfl) (.skp (.skp (.putEq (by rw [hc17]) (.refl _)) rfl) rfl))
   refine dnil ?_
   refine Sv.cnd rfl h (fun h => ?_) fun h => ?_
   ·refine srg <| un1 rfl <| dnil ?_
    exact Sv.weak (wcn [0] rfl (.cf rfl rfl (.cf rfl rfl (.cr rfl rfl rfl (.cf rfl rfl .nil)))) (.box (by decide) rfl (blkAs_cells (.sm rfl (.sm rfl (.sm rfl (.sm rfl .nil))))) .nil)) (Z8v h)
   ·refine Sv.skip ?_
    exact Sv.weak (wcn [0] rfl (.cf rfl rfl (.cf rfl rfl (.cr rfl rfl rfl (.cf rfl rfl .nil)))) (.box (by decide) rfl (blkAs_cells (.sm rfl (.sm rfl (.sm rfl (.sm rfl .nil))))) .nil)) (Z8v h)
abbrev Zcy (mL : Int) (o : TSToken) : AExit → St → Prop := AThen (Sv Tryz.prog (GG mL) 0 a110_c10 (Ends a110.results 0 (Zf o))) (Ends a110.results 0 (Zf o))
noncomputable def Z1w (s_ : Tx) (c_ : UInt8) (v77 : Bool) : Option TSToken :=
 if v77 then
  (Z1a s_ 1).bind fun r_5 =>
  (sub? s_ 0 r_5.2).bind fun r_6 =>
  some (⟨4, r_6, r_5.1, 0⟩ : TSToken)
 else
  if decide ((c_.toNat : Int) = 64) then
   (Z1u s_ 1).bind fun r_15 =>
   Z2u s_ c_ r_15
  else
   Z2u s_ c_ false
theorem Z5r {mL : Int} {s_ : Tx} {c_ : UInt8} {v77 : Bool} {o : TSToken} (h : Z1w s_ c_ v77 = some o) :
  Sv Tryz.prog (GG mL) 0 a110_c4 (Zcy mL o) ⟨(ue [(77, (B v77)), (3, (.c (.val (.int .u8 (c_.toNat : Int))))), (2, (.c (.ref 0 4 0 0))), (0, (S s_))]), (upd e0 0 (some (.cells 4 [[cI 0, .str [], .str [], cI 0]]))), 1⟩ := by
 unfold Z1w at h
 refine Sv.cnd rfl h (fun h => ?_) fun h => ?_
 ·refine ssr <| un1 rfl ?_
  obtain ⟨r_5, hr5, h⟩ := bnd h
  refine un <| ac_pure (Z4k hr5) rfl rfl rfl <| un1 rfl <| un1 (v := (S r_5.1)) rfl <| un1 (v := (I r_5.2)) rfl <| un1 rfl <| un1 rfl <| dnil <| ssr <| un1 rfl <| un1 rfl ?_
  obtain ⟨r_6, hx4, h⟩ := bnd h
  refine un1 (v := (S r_6)) (s_slStr rfl rfl rfl hx4) <| un1 rfl <| un1 (v := (.agg [cI 4, .str r_6, .str r_5.1, cI 0])) rfl <| un <| a2n (h' := upd _ 0 (some (.cells 4 [[cI 4, .str r_6, .str r_5.1, cI 0]]))) (n' := 1) rfl rfl hcs <| dnil <| Sv.ret ?_
  exact rt0 h rfl rfl ⟨rfl, rfl, rfl⟩
 ·refine Sv.skip <| Sv.seq <| ssr <| un1 rfl <| un1 (v := (B (decide ((c_.toNat : Int) = 64)))) rfl <| un1 rfl ?_
  refine spl h (fun h => ?_) fun h => ?_
  ·refine gt rfl <| a1 rfl ?_
   obtain ⟨r_15, hr10, h⟩ := bnd h
   refine gt rfl <| ac_pure (Z5k hr10) rfl rfl rfl <| un1 (v := (B r_15)) rfl <| dnil ?_
   exact Sv.weak (wcn [0] rfl (.cf rfl rfl (.cf rfl rfl (.cr rfl rfl rfl (.cf rfl rfl .nil)))) (.box (by decide) rfl (blkAs_cells (.sm rfl (.sm rfl (.sm rfl (.sm rfl .nil))))) .nil)) (Z8w h)
  ·refine gs rfl rfl <| gs rfl rfl <| un1 (v := (B false)) rfl <| dnil ?_
   exact Sv.weak (wcn [0] rfl (.cf rfl rfl (.cf rfl rfl (.cr rfl rfl rfl (.cf rfl rfl .nil)))) (.box (by decide) rfl (blkAs_cells (.sm rfl (.sm rfl (.sm rfl (.sm rfl .nil))))) .nil)) (Z8w h)
abbrev Zcz (mL : Int) (o : TSToken) : AExit → St → Prop := AThen (Sv Tryz.prog (GG mL) 0 a110_c11 (Ends a110.results 0 (Zf o))) (Ends a110.results 0 (Zf o))
noncomputable def Z1x (s_ : Tx) (c_ : UInt8) (v40 : Bool) : Option TSToken :=
 if v40 then
  (Z3h s_).bind fun r_1 =>
  some r_1
 else
  if ((decide ((c_.toNat : Int) = 39)) || (decide ((c_.toNat : Int) = 34))) then
   (Z3j s_).bind fun r_2 =>
   some r_2
  else
   (Z3o s_).bind fun r_3 =>
   if decide (0 < r_3.2) then
    (Z3v s_ r_3.1 r_3.2).bind fun r_4 =>
    some r_4
   else
    if decide ((c_.toNat : Int) = 35) then
     (Z6 s_ 1).bind fun r_16 =>
     if ((Z1i r_16) && (decide (1 < (s_.length : Int)))) then
      Z1w s_ c_ true
     else
      (Z19 s_ 1).bind fun r_17 =>
      Z1w s_ c_ r_17
    else
     Z1w s_ c_ false
theorem Z8x {mL : Int} {s_ : Tx} {c_ : UInt8} {v40 : Bool} {o : TSToken} (h : Z1x s_ c_ v40 = some o) :
  Sv Tryz.prog (GG mL) 0 a110_c3 (Zcz mL o) ⟨(ue [(40, (B v40)), (3, (.c (.val (.int .u8 (c_.toNat : Int))))), (2, (.c (.ref 0 4 0 0))), (0, (S s_))]), (upd e0 0 (some (.cells 4 [[cI 0, .str [], .str [], cI 0]]))), 1⟩ := by
 unfold Z1x at h
 refine Sv.cnd rfl h (fun h => ?_) fun h => ?_
 ·refine ssr <| un1 rfl ?_
  obtain ⟨r_1, hr1, h⟩ := bnd h
  refine un <| ac_pure (Zc6 hr1) rfl rfl rfl <| un <| a2n (h' := upd _ 0 (some (.cells 4 [(e_TSToken r_1)]))) (n' := 1) rfl rfl hcs <| dnil <| Sv.ret ?_
  exact rt0 h rfl rfl ⟨rfl, rfl, rfl⟩
 ·refine Sv.skip <| Sv.seq <| ssr <| un1 rfl <| un1 (v := (B (decide ((c_.toNat : Int) = 39)))) rfl <| un1 rfl ?_
  refine gjoin 3 (d := 48) (v := (B ((decide ((c_.toNat : Int) = 39)) || (decide ((c_.toNat : Int) = 34))))) (fun X hX => ?_) ?_
  ·refine split2 (fun hc5 => ?_) (fun hc5 => ?_)
   ·refine gs rfl rfl <| gs rfl rfl <| un1 (v := (B true)) rfl <| dnil ?_
    exact hX _ (.putEq (by rw [hc5]; rfl) (.skp (.skp (.putEq (by rw [hc5]) (.refl _)) rfl) rfl))
   ·refine gt rfl <| a1 rfl <| gt rfl <| a1 (v := (B (decide ((c_.toNat : Int) = 34)))) rfl <| un1 (v := (B (decide ((c_.toNat : Int) = 34)))) rfl <| dnil ?_
    exact hX _ (.putEq (by rw [hc5]; rfl) (.skp (.skp (.putEq (by rw [hc5]) (.refl _)) rfl) rfl))
  refine dnil ?_
  refine Sv.cnd rfl h (fun h => ?_) fun h => ?_
  ·refine ssr <| un1 rfl ?_
   obtain ⟨r_2, hr2, h⟩ := bnd h
   refine un <| ac_pure (Zcb hr2) rfl rfl rfl <| un <| a2n (h' := upd _ 0 (some (.cells 4 [(e_TSToken r_2)]))) (n' := 1) rfl rfl hcs <| dnil <| Sv.ret ?_
   exact rt0 h rfl rfl ⟨rfl, rfl, rfl⟩
  ·refine Sv.skip <| ssr <| un1 rfl ?_
   obtain ⟨r_3, hr3, h⟩ := bnd h
   refine un <| ac_pure (Zcj hr3) rfl rfl rfl <| un1 rfl <| un1 (v := (I r_3.1)) rfl <| un1 (v := (I r_3.2)) rfl <| un1 rfl <| un1 rfl <| dnil <| Sv.seq <| ssr <| un1 rfl <| un1 (v := (B (decide (0 < r_3.2)))) rfl <| dnil ?_
   refine Sv.cnd rfl h (fun h => ?_) fun h => ?_
   ·refine ssr <| un1 rfl <| un1 rfl <| un1 rfl ?_
    obtain ⟨r_4, hr4, h⟩ := bnd h
    refine un <| ac_pure (Zcu hr4) rfl rfl rfl <| un <| a2n (h' := upd _ 0 (some (.cells 4 [(e_TSToken r_4)]))) (n' := 1) rfl rfl hcs <| dnil <| Sv.ret ?_
    exact rt0 h rfl rfl ⟨rfl, rfl, rfl⟩
   ·refine Sv.skip <| Sv.seq <| ssr <| un1 rfl <| un1 (v := (B (decide ((c_.toNat : Int) = 35)))) rfl <| un1 rfl ?_
    refine spl h (fun h => ?_) fun h => ?_
    ·refine gt rfl <| a1 rfl ?_
     obtain ⟨r_16, hr11, h⟩ := bnd h
     refine gt rfl <| ac_pure (Z18 hr11) rfl rfl rfl <| gt rfl <| ac_pure (Z8i (mL := mL) r_16) rfl rfl rfl <| gt rfl <| a1 rfl ?_
     refine gjoin 4 (d := 72) (v := (B ((Z1i r_16) && (decide (1 < (s_.length : Int)))))) (fun X hX => ?_) ?_
     ·refine split2 (fun hc21 => ?_) (fun hc21 => ?_)
      ·refine gt rfl <| a1 rfl <| gt rfl <| a1 (v := (I (s_.length : Int))) rfl <| gt rfl <| a1 (v := (B (decide (1 < (s_.length : Int))))) rfl <| gt rfl <| a1 (v := (B (decide (1 < (s_.length : Int))))) rfl <| dnil ?_
       exact hX _ (.putEq (by rw [hc21]; rfl) (.skp (.skp (.skp (.putEq (by rw [hc21]) (.refl _)) rfl) rfl) rfl))
      ·refine gs rfl rfl <| gs rfl rfl <| gs rfl rfl <| gt rfl <| a1 (v := (B false)) rfl <| dnil ?_
       exact hX _ (.putEq (by rw [hc21]; rfl) (.skp (.skp (.skp (.putEq (by rw [hc21]) (.refl _)) rfl) rfl) rfl))
     refine gt rfl <| a1 rfl ?_
     refine spl h (fun h => ?_) fun h => ?_
     ·refine gs rfl rfl <| gs rfl rfl <| gt rfl <| a1 (v := (B true)) rfl <| un1 (v := (B true)) rfl <| dnil ?_
      exact Sv.weak (wcn [0] rfl (.cf rfl rfl (.cf rfl rfl (.cr rfl rfl rfl (.cf rfl rfl .nil)))) (.box (by decide) rfl (blkAs_cells (.sm rfl (.sm rfl (.sm rfl (.sm rfl .nil))))) .nil)) (Z5r h)
     ·refine gt rfl <| a1 rfl ?_
      obtain ⟨r_17, hr12, h⟩ := bnd h
      refine gt rfl <| ac_pure (Z3q hr12) rfl rfl rfl <| gt rfl <| a1 (v := (B r_17)) rfl <| un1 (v := (B r_17)) rfl <| dnil ?_
      exact Sv.weak (wcn [0] rfl (.cf rfl rfl (.cf rfl rfl (.cr rfl rfl rfl (.cf rfl rfl .nil)))) (.box (by decide) rfl (blkAs_cells (.sm rfl (.sm rfl (.sm rfl (.sm rfl .nil))))) .nil)) (Z5r h)
    ·repeat (first | refine gu rfl ?_ | refine gs rfl rfl ?_)
     refine un1 (v := (B false)) rfl <| dnil ?_
     exact Sv.weak (wcn [0] rfl (.cf rfl rfl (.cf rfl rfl (.cr rfl rfl rfl (.cf rfl rfl .nil)))) (.box (by decide) rfl (blkAs_cells (.sm rfl (.sm rfl (.sm rfl (.sm rfl .nil))))) .nil)) (Z5r h)
/-- clerestory/clerestoryref2.TokenAt -/
noncomputable def Z3z (s_ : Tx) : Option TSToken :=
 (at? s_ 0).bind fun c_ =>
 if (Z1g (c_.toNat : Int)) then
  lim fun kk => Z11 s_ (fun (i_1 : Int) => 
    (sub? s_ 0 i_1).bind fun r_ =>
    some (⟨8, r_, [], 0⟩ : TSToken)) kk 0
 else
  if decide ((c_.toNat : Int) = 47) then
   (Z6 s_ 1).bind fun r_18 =>
   Z1x s_ c_ (decide (r_18 = 42))
  else
   Z1x s_ c_ false
theorem Zd0 {mL : Int} {s_ : Tx} {r : TSToken} (h : Z3z s_ = some r) : CPure Tryz.prog (GG mL) 110 [(S s_)] (.agg (e_TSToken r)) := by
 refine acalls_of_sv hmix c110 (R := Zf r) ?_
 unfold Z3z at h
 refine ssr <| un <| a2v (v := (.c (.ref 0 4 0 0))) (h' := upd _ 0 (some (.cells 4 [[cI 0, .str [], .str [], cI 0]]))) (n' := 1) rfl rfl hcs <| dnil <| ssr <| un1 rfl ?_
 obtain ⟨c_, hx1, h⟩ := bnd h
 refine un1 (v := (.c (.val (.int .u8 (c_.toNat : Int))))) (s_idxS rfl rfl hx1) <| un1 rfl <| dnil <| Sv.seq <| ssr <| un1 rfl <| un <| ac_pure (Z7v (mL := mL) (c_.toNat : Int)) rfl rfl rfl <| dnil ?_
 refine Sv.cnd rfl h (fun h => ?_) fun h => ?_
 ·refine ssr <| un1 rfl <| dnil <| Sv.seq <| Sv.block ?_
  obtain ⟨kk, h⟩ := lim_some h
  refine Sv.weak (wcn [0] rfl (.cf rfl rfl (.cr rfl rfl rfl (.cf rfl rfl .nil))) (.box (by decide) rfl (blkAs_cells (.sm rfl (.sm rfl (.sm rfl (.sm rfl .nil))))) .nil)) (Zcw h ?_ (fun s hs => hs))
  ·intro i_1 h _ hw1
   refine Sv.weak hw1 <| ssr <| un1 rfl <| un1 rfl ?_
   obtain ⟨r_, hx3, h⟩ := bnd h
   refine un1 (v := (S r_)) (s_slStr rfl rfl rfl hx3) <| un1 (v := (.agg [cI 8, .str r_, .str [], cI 0])) rfl <| un <| a2n (h' := upd _ 0 (some (.cells 4 [[cI 8, .str r_, .str [], cI 0]]))) (n' := 1) rfl rfl hcs <| dnil <| Sv.ret ?_
   exact rt0 h rfl rfl ⟨rfl, rfl, rfl⟩
 ·refine Sv.skip <| Sv.seq <| ssr <| un1 rfl <| un1 (v := (B (decide ((c_.toNat : Int) = 47)))) rfl <| un1 rfl ?_
  refine spl h (fun h => ?_) fun h => ?_
  ·refine gt rfl <| a1 rfl ?_
   obtain ⟨r_18, hr13, h⟩ := bnd h
   refine gt rfl <| ac_pure (Z18 hr13) rfl rfl rfl <| gt rfl <| a1 (v := (B (decide (r_18 = 42)))) rfl <| un1 (v := (B (decide (r_18 = 42)))) rfl <| dnil ?_
   exact Sv.weak (wcn [0] rfl (.cf rfl rfl (.cf rfl rfl (.cr rfl rfl rfl (.cf rfl rfl .nil)))) (.box (by decide) rfl (blkAs_cells (.sm rfl (.sm rfl (.sm rfl (.sm rfl .nil))))) .nil)) (Z8x h)
  ·refine gs rfl rfl <| gs rfl rfl <| gs rfl rfl <| un1 (v := (B false)) rfl <| dnil ?_
   exact Sv.weak (wcn [0] rfl (.cf rfl rfl (.cf rfl rfl (.cr rfl rfl rfl (.cf rfl rfl .nil)))) (.box (by decide) rfl (blkAs_cells (.sm rfl (.sm rfl (.sm rfl (.sm rfl .nil))))) .nil)) (Z8x h)
def a72_c0 : ACode := (.seq (sr [(mV 5 0), (oP 6 (.lenS (.tmp 5))), (oP 7 (.bin .gtr (.tmp 6) (kI 0)))]
 (.cond (.tmp 7) .skip (.exit 0)))
 (.block 1 (sr [(mV 8 0), (oP 9 (.call 110 [(.tmp 8)])), (oP 4 (.box (.const (.agg [(.val (.int .i64 0)), (.str []), (.str []), (.val (.int .i64 0))])))), (oN (.store 4 (.tmp 4) (.tmp 9)))]
 (sr [(mV 10 3), (oP 11 (.load true 4 (.tmp 4))), (oP 12 (.bslice 4 [(.val (.int .i64 0)), (.str []), (.str []), (.val (.int .i64 0))] 1 [(0, (.tmp 11))])), (oP 13 (.app 4 48 (.tmp 10) (.tmp 12))), (mV 3 13)]
 (.region [(mV 14 0), (oP 15 (.faddr 1 (.tmp 4))), (oP 16 (.load false 1 (.tmp 15))), (oP 17 (.lenS (.tmp 16))), (oP 18 (.slStr (.tmp 14) (some (.tmp 17)) none)), (mV 0 18)])))))
def a72 : AFunc := ⟨1, [(.tmp 2)], (sr [(oP 2 (.mov (.const (.c (.ro true 4 [])))))]
 (sr [(oP 3 (.mov (.const (.c (.ro true 4 [])))))]
 (.seq (.block 0 (.loop a72_c0))
 (sr [(mV 19 3), (mV 2 19)]
 .ret))))⟩
theorem c72 : compFunc Tryz.prog 72 = some a72 := by kernel_rfl
def Z5s (r : (List TSToken)) : AV → Heap → Nat → Prop := fun v h' n' => ∃ z0 : Bool, (z0 = true → r = []) ∧ v = (lstV z0 0 4 r.length) ∧ (h' = (upd e0 0 (lstB z0 4 (r.map e_TSToken)))) ∧ n' = 1
abbrev Zd1 (F_ : (List TSToken) → Option (List TSToken)) (o : (List TSToken)) (R_ : St → Prop) : Prop := ∀ (out1 : (List TSToken)) (zout1 : Bool) (_ : zout1 = true → out1 = []), F_ out1 = some o → ∀ s, Weak 0 s ⟨(upd e0 3 (some (lstV zout1 0 4 out1.length))), (upd e0 0 (lstB zout1 4 (out1.map e_TSToken))), 1⟩ → R_ s
abbrev Z8y (F_ : Nat → Tx → (List TSToken) → Option (List TSToken)) (o : (List TSToken)) : Nat → St → Prop := fun k s => ∃ (s_1 : Tx), ∃ (out : (List TSToken)), ∃ (zout : Bool), (zout = true → out = []) ∧ F_ k s_1 out = some o ∧ s = ⟨(ue [(3, (lstV zout 0 4 out.length)), (0, (S s_1))]), (upd e0 0 (lstB zout 4 (out.map e_TSToken))), 1⟩
abbrev Zd2 (F_ : Tx → (List TSToken) → Option (List TSToken)) (o : (List TSToken)) (R_ : St → Prop) : Prop := ∀ (s_1 : Tx) (out : (List TSToken)) (zout : Bool) (_ : zout = true → out = []), F_ s_1 out = some o → ∀ s, Weak 0 s ⟨(ue [(3, (lstV zout 0 4 out.length)), (0, (S s_1))]), (upd e0 0 (lstB zout 4 (out.map e_TSToken))), 1⟩ → R_ s
noncomputable def Z1b (K0_ : (List TSToken) → Option (List TSToken)) : Nat → Tx → (List TSToken) → Option (List TSToken)
 | 0, _, _ => none
 | k + 1, s_1, out =>
  if decide (0 < (s_1.length : Int)) then
   (Z3z s_1).bind fun r_ =>
   (app? 48 out [r_]).bind fun r_1 =>
   (sub? s_1 (r_.Raw.length : Int) (s_1.length : Int)).bind fun r_2 =>
   (Z1b K0_ k) r_2 r_1
  else
   K0_ out
theorem Zd3 {mL : Int} {Q : AExit → St → Prop} {K0_ : (List TSToken) → Option (List TSToken)} {k : Nat} {s_1 : Tx} {out : (List TSToken)} {zout : Bool} (hzout : zout = true → out = []) {o : (List TSToken)} (h : Z1b K0_ k s_1 out = some o)
  (hK0 : Zd1 K0_ o (Q (.exit 0)))
  (hr : ∀ s, Ends a72.results 0 (Z5s o) .ret s → Q .ret s) :
  Sv Tryz.prog (GG mL) 0 (.loop a72_c0) Q ⟨(ue [(3, (lstV zout 0 4 out.length)), (0, (S s_1))]), (upd e0 0 (lstB zout 4 (out.map e_TSToken))), 1⟩ := by
 refine Sv.loop (I := Z8y (Z1b K0_) o) (fun k s hI => ?_) ⟨s_1, out, zout, hzout, h, rfl⟩
 clear h
 clear hzout zout out s_1
 obtain ⟨s_1, out, zout, hzout, h, rfl⟩ := hI
 cases k with
 | zero => cases h
 | succ k =>
 rw [Z1b] at h
 have hself : Zd2 (Z1b K0_ k) o (rnd 0 (Z8y (Z1b K0_) o) k Q) := fun s_1 out zout hzout h s hw => ⟨_, k, hw, Nat.lt_succ_self k, s_1, out, zout, hzout, h, rfl⟩
 refine Sv.seq <| ssr <| un1 rfl <| un1 (v := (I (s_1.length : Int))) rfl <| un1 (v := (B (decide (0 < (s_1.length : Int))))) rfl <| dnil ?_
 refine Sv.cnd rfl h (fun h => ?_) fun h => ?_
 ·refine Sv.skip <| Sv.block <| ssr <| un1 rfl ?_
  obtain ⟨r_, hr1, h⟩ := bnd h
  refine un <| ac_pure (Zd0 hr1) rfl rfl rfl <| un <| a2v (v := (.c (.ref 1 4 0 0))) (h' := upd _ 1 (some (.cells 4 [[cI 0, .str [], .str [], cI 0]]))) (n' := 2) rfl rfl hcs <| un <| a2n (h' := upd _ 1 (some (.cells 4 [(e_TSToken r_)]))) (n' := 2) rfl rfl hcs <| dnil <| ssr <| un1 rfl <| un1 (v := (.agg (e_TSToken r_))) rfl <| un <| a2v (v := (lstV false 2 4 [r_].length)) (h' := upd _ 2 (lstB false 4 ([r_].map e_TSToken))) (n' := 3) rfl rfl hcs ?_
  obtain ⟨r_1, hr2, h⟩ := bnd h
  have hz1 : (zout && [r_].isEmpty) = true → r_1 = [] := app_nil (z := zout) (ys := [r_]) hzout hr2
  refine un <| a2v rfl (s_app (xs := out) (ys := [r_]) (e := e_TSToken) (z := zout) (b := 0) rfl rfl hzout rfl rfl (slc_lst rfl (List.length_map _).symm (map_nil_of hcs)) hr2) hcs <| un1 rfl <| dnil <| srg <| un1 rfl <| un1 (v := (.c (.ref 1 4 0 1))) rfl <| un1 (v := (S r_.Raw)) rfl <| un1 (v := (I (r_.Raw.length : Int))) rfl ?_
  obtain ⟨r_2, hx1, h⟩ := bnd h
  refine un1 (v := (S r_2)) (s_slStr rfl rfl rfl hx1) <| un1 rfl <| dnil ?_
  exact hself r_2 r_1 (zout && [r_].isEmpty) hz1 h _ (wcn [3] rfl (.cons rfl (.c (lsr rfl rfl)) (.cf rfl rfl .nil)) (.row (by decide) rfl (fr_map fun _ => rfl) .nil))
 ·refine Sv.exit ?_
  exact hK0 out zout hzout h _ (wcn [0] rfl (.cons rfl (.c (lsr rfl rfl)) .nil) (.row (by decide) rfl (fr_map fun _ => rfl) .nil))
/-- clerestory/clerestoryref2.Tokens -/
noncomputable def Z40 (s_ : Tx) : Option (List TSToken) :=
 lim fun kk => Z1b (fun (out1 : (List TSToken)) => 
   some out1) kk s_ ([] : List TSToken)
theorem Zd4 {mL : Int} {s_ : Tx} {r : (List TSToken)} (h : Z40 s_ = some r) : ACalls Tryz.prog (GG mL) 72 [(S s_)] e0 0 (Z5s r) := by
 refine acalls_of_sv hmix c72 (R := Z5s r) ?_
 unfold Z40 at h
 refine ssr <| un1 rfl <| dnil <| ssr <| un1 rfl <| dnil <| Sv.seq <| Sv.block ?_
 obtain ⟨kk, h⟩ := lim_some h
 refine Sv.weak (wcn [1000] rfl (.cons rfl (.c (.same rfl)) (.cf rfl rfl .nil)) (.non (by decide) .nil)) (Zd3 (fun _ => rfl) h ?_ (fun s hs => hs))
 ·intro out1 zout1 hzout1 h _ hw1
  refine Sv.weak hw1 <| ssr <| un1 rfl <| un1 rfl <| dnil <| Sv.ret ?_
  replace h := Option.some.inj h
  subst h
  exact ⟨_, .refl _, _, rfl, ⟨upd e0 0 (some (lstV zout1 0 4 out1.length)), (upd e0 0 (lstB zout1 4 (out1.map e_TSToken))), 1⟩, (lstV zout1 0 4 out1.length), weak_canon2 [0] [0] (by decide) (by decide) nlz (.cons (by decide) .nil) (.cons rfl (.c (lsr rfl rfl)) .nil) (.row (by decide) rfl (fr_map fun _ => rfl) .nil), rfl, zout1, hzout1, rfl, rfl, rfl⟩
def a41_c0 : ACode := .ret
def a41 : AFunc := ⟨1, [(.tmp 2)], (sr [(oP 2 (.mov kF))]
 (sr [(mV 4 0), (oP 5 (.call 72 [(.tmp 4)])), (mV 3 5)]
 (sr [(mV 6 3), (oP 7 (.len (.tmp 6))), (oP 8 (.bin .eql (.tmp 7) (kI 1))), (mV 9 8), ⟨(some 10), (.mov (.tmp 3)), (some (9, true))⟩, ⟨(some 11), (.iaddr 4 (.tmp 10) (kI 0)), (some (9, true))⟩, ⟨(some 12), (.faddr 0 (.tmp 11)), (some (9, true))⟩, ⟨(some 13), (.load false 1 (.tmp 12)), (some (9, true))⟩, ⟨(some 14), (.bin .eql (.tmp 13) (kI 1)), (some (9, true))⟩, (oP 15 (.pick (.tmp 9) (.tmp 14) kF)), (mV 16 15), ⟨(some 17), (.mov (.tmp 3)), (some (16, true))⟩, ⟨(some 18), (.iaddr 4 (.tmp 17) (kI 0)), (some (16, true))⟩, ⟨(some 19), (.faddr 2 (.tmp 18)), (some (16, true))⟩, ⟨(some 20), (.load false 1 (.tmp 19)), (some (16, true))⟩, ⟨(some 21), (.mov (.tmp 0)), (some (16, true))⟩, ⟨(some 22), (.bin .eql (.tmp 20) (.tmp 21)), (some (16, true))⟩, (oP 23 (.pick (.tmp 16) (.tmp 22) kF)), (mV 24 23), ⟨(some 25), (.mov (.tmp 3)), (some (24, true))⟩, ⟨(some 26), (.iaddr 4 (.tmp 25) (kI 0)), (some (24, true))⟩, ⟨(some 27), (.faddr 1 (.tmp 26)), (some (24, true))⟩, ⟨(some 28), (.load false 1 (.tmp 27)), (some (24, true))⟩, ⟨(some 29), (.mov (.tmp 0)), (some (24, true))⟩, ⟨(some 30), (.bin .eql (.tmp 28) (.tmp 29)), (some (24, true))⟩, (oP 31 (.pick (.tmp 24) (.tmp 30) kF)), (mV 2 31)]
 a41_c0)))⟩
theorem c41 : compFunc Tryz.prog 41 = some a41 := by kernel_rfl
def Z8z (r : Bool) : AV → Heap → Nat → Prop := fun v h' n' => v = (B r) ∧ (h' = e0) ∧ n' = 0
noncomputable def Z1y (v2 : Bool) : Option Bool :=
 some v2
theorem Z4m {mL : Int} {v2 : Bool} {o : Bool} (h : Z1y v2 = some o) :
  Sv Tryz.prog (GG mL) 0 a41_c0 (Ends a41.results 0 (Z8z o)) ⟨(upd e0 2 (some (B v2))), e0, 0⟩ := by
 unfold Z1y at h
 refine Sv.ret ?_
 exact rt0 h rfl rfl ⟨rfl, rfl, rfl⟩
/-- clerestory/clerestoryref2.PlainName -/
noncomputable def Z41 (s_ : Tx) : Option Bool :=
 (Z40 s_).bind fun r_ =>
 if decide ((r_.length : Int) = 1) then
  (at? r_ 0).bind fun x_ =>
  if decide (x_.Kind = 1) then
   (at? r_ 0).bind fun x_1 =>
   if decide (x_1.Value = s_) then
    (at? r_ 0).bind fun x_2 =>
    Z1y (decide (x_2.Raw = s_))
   else
    Z1y false
  else
   Z1y false
 else
  Z1y false
theorem Zd5 {mL : Int} {s_ : Tx} {r : Bool} (h : Z41 s_ = some r) : CPure Tryz.prog (GG mL) 41 [(S s_)] (B r) := by
 refine acalls_of_sv hmix c41 (R := Z8z r) ?_
 unfold Z41 at h
 refine ssr <| un1 rfl <| dnil <| ssr <| un1 rfl ?_
 obtain ⟨r_, hr1, h⟩ := bnd h
 refine un <| ac_gen (bs := []) («as» := [(S s_)]) (h2 := _) (h1 := e0) (Zd4 hr1) rfl (.cons (avAs_free rfl) .nil) (hsub_refl _) (.nil _) (fun _ => rfl) (by decide) (by decide) (.cons (avAs_free rfl) .nil) .nil ?_
 rintro _ _ _ hn ⟨z_, hz_, rfl, rfl, rfl⟩
 refine ⟨.inl rfl, (upd (rem [] _) 0 (lstB z_ 4 (r_.map e_TSToken))), fun hbd => (m3_cons (m3_row rfl (fr_map fun _ => rfl)) (m3_rem (in_nil _) (.cons (by decide) .nil) hbd)), (lstV z_ 0 4 r_.length), 1, (by cases z_ <;> rfl), rfl, ?_⟩
 refine un1 rfl <| dnil <| ssr <| un1 rfl <| un1 (v := (I (r_.length : Int))) (s_lenL rfl (len_nil_of hz_)) <| un1 (v := (B (decide ((r_.length : Int) = 1)))) rfl <| un1 rfl ?_
 refine spl h (fun h => ?_) fun h => ?_
 ·refine gt rfl <| a1 rfl ?_
  obtain ⟨x_, hx1, h⟩ := bnd h
  refine gt rfl <| a1 (v := (.c (.ref 0 4 (0 : Int).toNat 0))) (s_iaddrL rfl rfl hz_ hx1) <| gt rfl <| a1 (v := (.c (.ref 0 4 (0 : Int).toNat 0))) rfl <| gt rfl <| a1 (v := (I x_.Kind)) (s_loadL (z := z_) (e := e_TSToken) rfl rfl hz_ hx1 rfl rfl) <| gt rfl <| a1 (v := (B (decide (x_.Kind = 1)))) rfl <| un1 (v := (B (decide (x_.Kind = 1)))) rfl <| un1 rfl ?_
  refine spl h (fun h => ?_) fun h => ?_
  ·refine gt rfl <| a1 rfl ?_
   obtain ⟨x_1, hx2, h⟩ := bnd h
   refine gt rfl <| a1 (v := (.c (.ref 0 4 (0 : Int).toNat 0))) (s_iaddrL rfl rfl hz_ hx2) <| gt rfl <| a1 (v := (.c (.ref 0 4 (0 : Int).toNat 2))) rfl <| gt rfl <| a1 (v := (S x_1.Value)) (s_loadL (z := z_) (e := e_TSToken) rfl rfl hz_ hx2 rfl rfl) <| gt rfl <| a1 rfl <| gt rfl <| a1 (v := (B (decide (x_1.Value = s_)))) rfl <| un1 (v := (B (decide (x_1.Value = s_)))) rfl <| un1 rfl ?_
   refine spl h (fun h => ?_) fun h => ?_
   ·refine gt rfl <| a1 rfl ?_
    obtain ⟨x_2, hx3, h⟩ := bnd h
    refine gt rfl <| a1 (v := (.c (.ref 0 4 (0 : Int).toNat 0))) (s_iaddrL rfl rfl hz_ hx3) <| gt rfl <| a1 (v := (.c (.ref 0 4 (0 : Int).toNat 1))) rfl <| gt rfl <| a1 (v := (S x_2.Raw)) (s_loadL (z := z_) (e := e_TSToken) rfl rfl hz_ hx3 rfl rfl) <| gt rfl <| a1 rfl <| gt rfl <| a1 (v := (B (decide (x_2.Raw = s_)))) rfl <| un1 (v := (B (decide (x_2.Raw = s_)))) rfl <| un1 rfl <| dnil ?_
    exact Sv.weak (wcn [] rfl (.cf rfl rfl .nil) .nil) (Z4m h)
   ·repeat (first | refine gu rfl ?_ | refine gs rfl rfl ?_)
    refine un1 (v := (B false)) rfl <| un1 rfl <| dnil ?_
    exact Sv.weak (wcn [] rfl (.cf rfl rfl .nil) .nil) (Z4m h)
  ·repeat (first | refine gu rfl ?_ | refine gs rfl rfl ?_)
   refine un1 (v := (B false)) rfl <| un1 rfl ?_
   repeat (first | refine gu rfl ?_ | refine gs rfl rfl ?_)
   refine un1 (v := (B false)) rfl <| un1 rfl <| dnil ?_
   exact Sv.weak (wcn [] rfl (.cf rfl rfl .nil) .nil) (Z4m h)
 ·repeat (first | refine gu rfl ?_ | refine gs rfl rfl ?_)
  refine un1 (v := (B false)) rfl <| un1 rfl ?_
  repeat (first | refine gu rfl ?_ | refine gs rfl rfl ?_)
  refine un1 (v := (B false)) rfl <| un1 rfl ?_
  repeat (first | refine gu rfl ?_ | refine gs rfl rfl ?_)
  refine un1 (v := (B false)) rfl <| un1 rfl <| dnil ?_
  exact Sv.weak (wcn [] rfl (.cf rfl rfl .nil) .nil) (Z4m h)
def a18_c0 : ACode := (.cond (.tmp 22) (sr [(mV 23 5), (mV 4 23)]
 .ret) .skip)
def a18_c1 : ACode := (.seq (.drawn (.fin [((oP 24 (.load true 2 (.tmp 2))), (0, 0)), ((oP 25 (.faddr 0 (.tmp 2))), (0, 1)), ((oP 26 (.load false 1 (.tmp 25))), (0, 2)), ((mV 27 1), (0, 3)), ((oP 28 (.iaddr 6 (.tmp 26) (.tmp 27))), (0, 4)), ((oP 29 (.faddr 4 (.tmp 28))), (0, 5)), ((oP 30 (.load false 1 (.tmp 29))), (0, 6)), ((oP 31 (.call 18 [(.tmp 24), (.tmp 30)])), (2, 7)), ((mV 4 31), (0, 8))]))
 .ret)
def a18 : AFunc := ⟨2, [(.tmp 4)], (sr [(oP 2 (.box (.tmp 0))), (oP 4 (.mov (.const (.c (.str [])))))]
 (.seq (sr [(mV 7 1), (oP 8 (.bin .lss (.tmp 7) (kI 0)))]
 (.cond (.tmp 8) (sr [(oP 4 (.mov (.const (.c (.str [])))))]
 .ret) .skip))
 (.seq (sr [(oP 9 (.load true 2 (.tmp 2))), (mV 10 1), (oP 11 (.call 17 [(.tmp 9), (.tmp 10)]))]
 (.cond (.tmp 11) (sr [(oP 13 (.load true 2 (.tmp 2))), (mV 14 1), (oP 15 (.call 40 [(.tmp 13), (.tmp 14), (.const (.c (.str [114, 101, 103, 105, 111, 110])))])), (mV 12 15), (oP 16 (.ext (.tmp 12) 0)), (oP 17 (.ext (.tmp 12) 1)), (mV 5 16), (mV 6 17)]
 (sr [(mV 18 6), (mV 19 18), ⟨(some 20), (.mov (.tmp 5)), (some (19, true))⟩, ⟨(some 21), (.call 41 [(.tmp 20)]), (some (19, true))⟩, (oP 22 (.pick (.tmp 19) (.tmp 21) kF))]
 a18_c0)) .skip))
 a18_c1)))⟩
theorem c18 : compFunc Tryz.prog 18 = some a18 := by kernel_rfl
def Z4n (r : Tx) : AV → Heap → Nat → Prop := fun v h' n' => v = (S r) ∧ (h' = e0) ∧ n' = 0
def Z5t (mL : Int) (recf : TDoc → Int → Option Tx) : Prop := ∀ (d_ : TDoc) (n_ : Int) (r : Tx), recf d_ n_ = some r → CPure Tryz.prog (GG mL) 18 [(.agg (e_TDoc d_)), (I n_)] (S r)
noncomputable def Z2v (d_ : TDoc) (n_ : Int) (recf : TDoc → Int → Option Tx) : Option Tx :=
 (at? d_.Nodes n_).bind fun x_ =>
 (recf d_ x_.Parent).bind fun r_ =>
 some r_
theorem Z90 {mL : Int} {d_ : TDoc} {n_ : Int} {recf : TDoc → Int → Option Tx} {o : Tx} (h : Z2v d_ n_ recf = some o)
  (hrec : Z5t mL recf) :
  Sv Tryz.prog (GG mL) 0 a18_c1 (Ends a18.results 0 (Z4n o)) ⟨(ue [(2, (.c (.ref 0 2 0 0))), (1, (I n_))]), (upd e0 0 (some (.cells 2 [(e_TDoc d_)]))), 1⟩ := by
 unfold Z2v at h
 refine Sv.seq <| Sv.drawn <| un1 (v := (.agg (e_TDoc d_))) rfl <| un1 (v := (.c (.ref 0 2 0 0))) rfl <| un1 (v := (.c (.ro false 6 (d_.Nodes.map e_TNode)))) rfl <| un1 rfl ?_
 obtain ⟨x_, hx1, h⟩ := bnd h
 refine un1 (v := (.c (.rop (e_TNode x_)))) (s_iaddr (e := e_TNode) (xs := d_.Nodes) rfl rfl hx1) <| un1 (v := (.c (.rop [cI x_.Parent, .ro false 1 (x_.Kids.map eI)]))) rfl <| un1 (v := (I x_.Parent)) rfl ?_
 obtain ⟨r_, hr1, h⟩ := bnd h
 refine un <| ac_pure (hrec d_ x_.Parent _ hr1) rfl rfl rfl <| un1 rfl <| dnil <| Sv.ret ?_
 exact rt0 h rfl rfl ⟨rfl, rfl, rfl⟩
abbrev Zd6 (mL : Int) (o : Tx) : AExit → St → Prop := AThen (Sv Tryz.prog (GG mL) 0 a18_c1 (Ends a18.results 0 (Z4n o))) (Ends a18.results 0 (Z4n o))
noncomputable def Z42 (r_2 : (Tx × Bool)) (d_ : TDoc) (n_ : Int) (recf : TDoc → Int → Option Tx) (v22 : Bool) : Option Tx :=
 if v22 then
  some r_2.1
 else
  Z2v d_ n_ recf
theorem Z91 {mL : Int} {r_2 : (Tx × Bool)} {d_ : TDoc} {n_ : Int} {recf : TDoc → Int → Option Tx} {v22 : Bool} {o : Tx} (h : Z42 r_2 d_ n_ recf v22 = some o)
  (hrec : Z5t mL recf) :
  Sv Tryz.prog (GG mL) 0 a18_c0 (Zd6 mL o) ⟨(ue [(22, (B v22)), (5, (S r_2.1)), (2, (.c (.ref 0 2 0 0))), (1, (I n_))]), (upd e0 0 (some (.cells 2 [(e_TDoc d_)]))), 1⟩ := by
 unfold Z42 at h
 refine Sv.cnd rfl h (fun h => ?_) fun h => ?_
 ·refine ssr <| un1 rfl <| un1 rfl <| dnil <| Sv.ret ?_
  exact rt0 h rfl rfl ⟨rfl, rfl, rfl⟩
 ·refine Sv.skip ?_
  exact Sv.weak (wcn [0] rfl (.cr rfl rfl rfl (.cf rfl rfl .nil)) (.box (by decide) rfl (blkAs_cells (.sm rfl (.sm rfl .nil))) .nil)) (Z90 h hrec)
/-- clerestory/clerestoryref2.OwnerOf -/
noncomputable def Z8 : Nat → TDoc → Int → Option Tx
 | 0, _, _ => none
 | k + 1, d_, n_ =>
  if decide (n_ < 0) then
   some []
  else
   (Z2l d_ n_).bind fun r_1 =>
   if r_1 then
    (Z4f d_ n_ [114, 101, 103, 105, 111, 110]).bind fun r_2 =>
    if r_2.2 then
     (Z41 r_2.1).bind fun r_3 =>
     Z42 r_2 d_ n_ (Z8 k) r_3
    else
     Z42 r_2 d_ n_ (Z8 k) false
   else
    Z2v d_ n_ (Z8 k)
noncomputable def Z43 (d_ : TDoc) (n_ : Int) : Option Tx :=
 lim fun kr => Z8 kr d_ n_
theorem Zd7 {mL : Int} (k : Nat) : Z5t mL (Z8 k) := by
 induction k with
 | zero => intro d_ n_ r h; cases h
 | succ k hrec =>
 intro d_ n_ r h
 refine acalls_of_sv hmix c18 (R := Z4n r) ?_
 rw [Z8] at h
 refine ssr <| un <| a2v (v := (.c (.ref 0 2 0 0))) (h' := upd _ 0 (some (.cells 2 [(e_TDoc d_)]))) (n' := 1) rfl rfl hcs <| un1 rfl <| dnil <| Sv.seq <| ssr <| un1 rfl <| un1 (v := (B (decide (n_ < 0)))) rfl <| dnil ?_
 refine Sv.cnd rfl h (fun h => ?_) fun h => ?_
 ·refine ssr <| un1 rfl <| dnil <| Sv.ret ?_
  exact rt0 h rfl rfl ⟨rfl, rfl, rfl⟩
 ·refine Sv.skip <| Sv.seq <| ssr <| un1 (v := (.agg (e_TDoc d_))) rfl <| un1 rfl ?_
  obtain ⟨r_1, hr2, h⟩ := bnd h
  refine un <| ac_pure (Z7s hr2) rfl rfl rfl <| dnil ?_
  refine Sv.cnd rfl h (fun h => ?_) fun h => ?_
  ·refine ssr <| un1 (v := (.agg (e_TDoc d_))) rfl <| un1 rfl ?_
   obtain ⟨r_2, hr3, h⟩ := bnd h
   refine un <| ac_pure (Zc0 hr3) rfl rfl rfl <| un1 rfl <| un1 (v := (S r_2.1)) rfl <| un1 (v := (B r_2.2)) rfl <| un1 rfl <| un1 rfl <| dnil <| ssr <| un1 rfl <| un1 rfl ?_
   refine spl h (fun h => ?_) fun h => ?_
   ·refine gt rfl <| a1 rfl ?_
    obtain ⟨r_3, hr4, h⟩ := bnd h
    refine gt rfl <| ac_pure (Zd5 hr4) rfl rfl rfl <| un1 (v := (B r_3)) rfl <| dnil ?_
    exact Sv.weak (wcn [0] rfl (.cf rfl rfl (.cf rfl rfl (.cr rfl rfl rfl (.cf rfl rfl .nil)))) (.box (by decide) rfl (blkAs_cells (.sm rfl (.sm rfl .nil))) .nil)) (Z91 h hrec)
   ·refine gs rfl rfl <| gs rfl rfl <| un1 (v := (B false)) rfl <| dnil ?_
    exact Sv.weak (wcn [0] rfl (.cf rfl rfl (.cf rfl rfl (.cr rfl rfl rfl (.cf rfl rfl .nil)))) (.box (by decide) rfl (blkAs_cells (.sm rfl (.sm rfl .nil))) .nil)) (Z91 h hrec)
  ·refine Sv.skip ?_
   exact Sv.weak (wcn [0] rfl (.cr rfl rfl rfl (.cf rfl rfl .nil)) (.box (by decide) rfl (blkAs_cells (.sm rfl (.sm rfl .nil))) .nil)) (Z90 h hrec)
theorem Zd8 {mL : Int} {d_ : TDoc} {n_ : Int} {r : Tx} (h : Z43 d_ n_ = some r) : CPure Tryz.prog (GG mL) 18 [(.agg (e_TDoc d_)), (I n_)] (S r) := by
 unfold Z43 at h
 obtain ⟨k, h⟩ := lim_some h
 exact Zd7 k d_ n_  r h
end Go.Proofs.YtaejmblphhjccaaGreatDoorBv
