/- Printed by a program of mine (bgen.py): plain functions, and the walks that show that the code comes to what they answer. -/
import Derived.Test.YtoomjemboekooaaGHeapSays1
namespace Go.Proofs.YtoomjemboekooaaBv
open Go
set_option linter.unusedVariables false
set_option linter.unusedSimpArgs false
set_option maxRecDepth 100000
def a5_c0 : ACode := (.seq (.region [⟨(some 90), (.bin .lss (.tmp 89) (.tmp 88)), none⟩])
 (.seq (.cond (.tmp 90) .skip (.exit 0))
 (.seq (.block 1 (.seq (.region [⟨(some 91), (.iaddr 1 (.tmp 87) (.tmp 89)), none⟩, ⟨(some 92), (.load false 1 (.tmp 91)), none⟩, ⟨(some 16), (.mov (.tmp 92)), none⟩])
 (.region [⟨(some 93), (.mov (.tmp 14)), none⟩, ⟨(some 94), (.mov (.tmp 16)), none⟩, ⟨(some 95), (.mov (.tmp 0)), none⟩, ⟨(some 96), (.mov (.tmp 16)), none⟩, ⟨(some 97), (.iaddr 3 (.tmp 95) (.tmp 96)), none⟩, ⟨(some 98), (.load true 3 (.tmp 97)), none⟩, ⟨(some 99), (.iaddr 3 (.tmp 93) (.tmp 94)), none⟩, ⟨none, (.store 3 (.tmp 99) (.tmp 98)), none⟩])))
 (.region [⟨(some 100), (.bin .add (.tmp 89) (.const (.c (.val (.int .i64 1))))), none⟩, ⟨(some 89), (.mov (.tmp 100)), none⟩]))))
def a5_c1 : ACode := .ret
def a5 : AFunc := ⟨2, [(.tmp 4)], (.seq (.region [⟨(some 4), (.mov (.const (.c (.val (.bool false))))), none⟩])
 (.seq (.region [⟨(some 20), (.mov (.tmp 0)), none⟩, ⟨(some 21), (.mov (.tmp 1)), none⟩, ⟨(some 22), (.call 19 [(.tmp 20), (.tmp 21)]), none⟩, ⟨(some 19), (.mov (.tmp 22)), none⟩, ⟨(some 23), (.ext (.tmp 19) 0), none⟩, ⟨(some 24), (.ext (.tmp 19) 1), none⟩, ⟨(some 5), (.mov (.tmp 23)), none⟩, ⟨(some 6), (.mov (.tmp 24)), none⟩])
 (.seq (.region [⟨(some 26), (.mov (.tmp 0)), none⟩, ⟨(some 27), (.mov (.tmp 1)), none⟩, ⟨(some 28), (.call 20 [(.tmp 26), (.tmp 27)]), none⟩, ⟨(some 25), (.mov (.tmp 28)), none⟩, ⟨(some 29), (.ext (.tmp 25) 0), none⟩, ⟨(some 30), (.ext (.tmp 25) 1), none⟩, ⟨(some 7), (.mov (.tmp 29)), none⟩, ⟨(some 8), (.mov (.tmp 30)), none⟩])
 (.seq (.region [⟨(some 32), (.mov (.tmp 0)), none⟩, ⟨(some 33), (.mov (.tmp 1)), none⟩, ⟨(some 34), (.call 21 [(.tmp 32), (.tmp 33)]), none⟩, ⟨(some 31), (.mov (.tmp 34)), none⟩, ⟨(some 35), (.ext (.tmp 31) 0), none⟩, ⟨(some 36), (.ext (.tmp 31) 1), none⟩, ⟨(some 37), (.ext (.tmp 31) 2), none⟩, ⟨(some 9), (.mov (.tmp 35)), none⟩, ⟨(some 10), (.mov (.tmp 36)), none⟩, ⟨(some 11), (.mov (.tmp 37)), none⟩])
 (.seq (.seq (.region [⟨(some 38), (.mov (.tmp 0)), none⟩, ⟨(some 39), (.call 22 [(.tmp 38)]), none⟩, ⟨(some 40), (.mov (.tmp 0)), none⟩, ⟨(some 41), (.call 23 [(.tmp 40)]), none⟩, ⟨(some 42), (.bin .neq (.tmp 39) (.tmp 41)), none⟩])
 (.cond (.tmp 42) (.seq (.region [⟨(some 4), (.mov (.const (.c (.val (.bool false))))), none⟩])
 .ret) .skip))
 (.seq (.seq (.region [⟨(some 43), (.mov (.tmp 0)), none⟩, ⟨(some 44), (.mov (.tmp 1)), none⟩, ⟨(some 45), (.call 24 [(.tmp 43), (.tmp 44)]), none⟩, ⟨(some 12), (.mov (.tmp 45)), none⟩])
 (.seq (.region [⟨(some 46), (.mov (.tmp 12)), none⟩, ⟨(some 47), (.bin .neq (.tmp 46) (.const (.c (.val (.int .i64 0))))), none⟩])
 (.cond (.tmp 47) (.seq (.region [⟨(some 48), (.mov (.tmp 5)), none⟩, ⟨(some 49), (.len (.tmp 48)), none⟩, ⟨(some 50), (.bin .eql (.tmp 49) (.const (.c (.val (.int .i64 0))))), none⟩, ⟨(some 51), (.mov (.tmp 50)), none⟩, ⟨(some 52), (.mov (.tmp 6)), (some (51, true))⟩, ⟨(some 53), (.mov (.tmp 12)), (some (51, true))⟩, ⟨(some 54), (.bin .eql (.tmp 52) (.tmp 53)), (some (51, true))⟩, ⟨(some 55), (.pick (.tmp 51) (.tmp 54) (.const (.c (.val (.bool false))))), none⟩, ⟨(some 56), (.mov (.tmp 55)), none⟩, ⟨(some 57), (.mov (.tmp 7)), (some (56, true))⟩, ⟨(some 58), (.len (.tmp 57)), (some (56, true))⟩, ⟨(some 59), (.bin .eql (.tmp 58) (.const (.c (.val (.int .i64 0))))), (some (56, true))⟩, ⟨(some 60), (.pick (.tmp 56) (.tmp 59) (.const (.c (.val (.bool false))))), none⟩, ⟨(some 61), (.mov (.tmp 60)), none⟩, ⟨(some 62), (.mov (.tmp 8)), (some (61, true))⟩, ⟨(some 63), (.mov (.tmp 12)), (some (61, true))⟩, ⟨(some 64), (.bin .eql (.tmp 62) (.tmp 63)), (some (61, true))⟩, ⟨(some 65), (.pick (.tmp 61) (.tmp 64) (.const (.c (.val (.bool false))))), none⟩, ⟨(some 66), (.mov (.tmp 65)), none⟩, ⟨(some 67), (.mov (.tmp 9)), (some (66, true))⟩, ⟨(some 68), (.len (.tmp 67)), (some (66, true))⟩, ⟨(some 69), (.bin .eql (.tmp 68) (.const (.c (.val (.int .i64 0))))), (some (66, true))⟩, ⟨(some 70), (.pick (.tmp 66) (.tmp 69) (.const (.c (.val (.bool false))))), none⟩, ⟨(some 71), (.mov (.tmp 70)), none⟩, ⟨(some 72), (.mov (.tmp 10)), (some (71, true))⟩, ⟨(some 73), (.len (.tmp 72)), (some (71, true))⟩, ⟨(some 74), (.bin .eql (.tmp 73) (.const (.c (.val (.int .i64 0))))), (some (71, true))⟩, ⟨(some 75), (.pick (.tmp 71) (.tmp 74) (.const (.c (.val (.bool false))))), none⟩, ⟨(some 76), (.mov (.tmp 75)), none⟩, ⟨(some 77), (.mov (.tmp 11)), (some (76, true))⟩, ⟨(some 78), (.mov (.tmp 12)), (some (76, true))⟩, ⟨(some 79), (.bin .eql (.tmp 77) (.tmp 78)), (some (76, true))⟩, ⟨(some 80), (.pick (.tmp 76) (.tmp 79) (.const (.c (.val (.bool false))))), none⟩, ⟨(some 4), (.mov (.tmp 80)), none⟩])
 .ret) .skip)))
 (.seq (.region [⟨(some 81), (.mov (.tmp 0)), none⟩, ⟨(some 82), (.mov (.tmp 1)), none⟩, ⟨(some 83), (.call 25 [(.tmp 81), (.tmp 82)]), none⟩, ⟨(some 13), (.mov (.tmp 83)), none⟩])
 (.seq (.region [⟨(some 84), (.mov (.tmp 0)), none⟩, ⟨(some 85), (.len (.tmp 84)), none⟩, ⟨(some 86), (.mksl 3 56 [(.val (.int .i64 0)), (.ro true 1 []), (.ro true 3 [])] (.tmp 85) (.tmp 85)), none⟩, ⟨(some 14), (.mov (.tmp 86)), none⟩])
 (.seq (.seq (.region [⟨(some 87), (.mov (.tmp 13)), none⟩, ⟨(some 88), (.len (.tmp 87)), none⟩, ⟨(some 89), (.mov (.const (.c (.val (.int .i64 0))))), none⟩])
 (.block 0 (.loop a5_c0)))
 (.seq (.region [⟨(some 102), (.mov (.tmp 0)), none⟩, ⟨(some 103), (.mov (.tmp 1)), none⟩, ⟨(some 104), (.call 26 [(.tmp 102), (.tmp 103)]), none⟩, ⟨(some 101), (.mov (.tmp 104)), none⟩, ⟨(some 105), (.ext (.tmp 101) 0), none⟩, ⟨(some 106), (.ext (.tmp 101) 1), none⟩, ⟨(some 17), (.mov (.tmp 105)), none⟩, ⟨(some 18), (.mov (.tmp 106)), none⟩])
 (.seq (.region [⟨(some 107), (.mov (.tmp 5)), none⟩, ⟨(some 108), (.mov (.tmp 13)), none⟩, ⟨(some 109), (.call 29 [(.tmp 108)]), none⟩, ⟨(some 110), (.call 28 [(.tmp 109)]), none⟩, ⟨(some 111), (.call 27 [(.tmp 107), (.tmp 110)]), none⟩, ⟨(some 112), (.mov (.tmp 111)), none⟩, ⟨(some 113), (.mov (.tmp 6)), (some (112, true))⟩, ⟨(some 114), (.bin .eql (.tmp 113) (.const (.c (.val (.int .i64 0))))), (some (112, true))⟩, ⟨(some 115), (.pick (.tmp 112) (.tmp 114) (.const (.c (.val (.bool false))))), none⟩, ⟨(some 116), (.mov (.tmp 115)), none⟩, ⟨(some 117), (.mov (.tmp 7)), (some (116, true))⟩, ⟨(some 118), (.mov (.tmp 14)), (some (116, true))⟩, ⟨(some 119), (.call 30 [(.tmp 117), (.tmp 118)]), (some (116, true))⟩, ⟨(some 120), (.pick (.tmp 116) (.tmp 119) (.const (.c (.val (.bool false))))), none⟩, ⟨(some 121), (.mov (.tmp 120)), none⟩, ⟨(some 122), (.mov (.tmp 8)), (some (121, true))⟩, ⟨(some 123), (.bin .eql (.tmp 122) (.const (.c (.val (.int .i64 0))))), (some (121, true))⟩, ⟨(some 124), (.pick (.tmp 121) (.tmp 123) (.const (.c (.val (.bool false))))), none⟩, ⟨(some 125), (.mov (.tmp 124)), none⟩, ⟨(some 126), (.mov (.tmp 9)), (some (125, true))⟩, ⟨(some 127), (.mov (.tmp 17)), (some (125, true))⟩, ⟨(some 128), (.call 30 [(.tmp 126), (.tmp 127)]), (some (125, true))⟩, ⟨(some 129), (.pick (.tmp 125) (.tmp 128) (.const (.c (.val (.bool false))))), none⟩, ⟨(some 130), (.mov (.tmp 129)), none⟩, ⟨(some 131), (.mov (.tmp 10)), (some (130, true))⟩, ⟨(some 132), (.mov (.tmp 18)), (some (130, true))⟩, ⟨(some 133), (.call 31 [(.tmp 131), (.tmp 132)]), (some (130, true))⟩, ⟨(some 134), (.pick (.tmp 130) (.tmp 133) (.const (.c (.val (.bool false))))), none⟩, ⟨(some 135), (.mov (.tmp 134)), none⟩, ⟨(some 136), (.mov (.tmp 11)), (some (135, true))⟩, ⟨(some 137), (.bin .eql (.tmp 136) (.const (.c (.val (.int .i64 0))))), (some (135, true))⟩, ⟨(some 138), (.pick (.tmp 135) (.tmp 137) (.const (.c (.val (.bool false))))), none⟩, ⟨(some 4), (.mov (.tmp 138)), none⟩])
 a5_c1)))))))))))⟩
set_option maxRecDepth 100000 in
theorem c5 : compFunc Try.prog 5 = some a5 := by kernel_rfl
def clerestorylaw4_HeapSays_post (r : Bool) : AV → Heap → Nat → Prop := fun v h' n' => v = (B r) ∧ (h' = (fun _ => none)) ∧ n' = 0
abbrev clerestorylaw4_HeapSays_l0_E0 (h_ : (List TJCell)) (roots : (List TJVal)) (r_ : ((List Int) × Int)) (r_1 : ((List TJCell) × Int)) (r_2 : ((List TJCell) × (List TJVal) × Int)) (F_ : (List Int) → (List TJCell) → (List TJCell) → (List TJVal) → (List Int) → (List TJCell) → Option Bool) (o : Bool) (R_ : St → Prop) : Prop := ∀ (l_1 : (List Int)) (s_1 : (List TJCell)) (m_1 : (List TJCell)) (r_8 : (List TJVal)) (order1 : (List Int)) (want1 : (List TJCell)) (zl_1 : Bool) (_ : zl_1 = true → l_1 = []) (zs_1 : Bool) (_ : zs_1 = true → s_1 = []) (zm_1 : Bool) (_ : zm_1 = true → m_1 = []) (zr_8 : Bool) (_ : zr_8 = true → r_8 = []) (zorder1 : Bool) (_ : zorder1 = true → order1 = []) (zwant1 : Bool) (_ : zwant1 = true → want1 = []), F_ l_1 s_1 m_1 r_8 order1 want1 = some o → ∀ s, Weak 0 s ⟨(upd (upd (upd (upd (upd (upd (upd (upd (upd (upd (upd (fun _ => none) 0 (some (.c (.ro false 3 (h_.map e_TJCell))))) 1 (some (.c (.ro false 3 (roots.map e_TJVal))))) 5 (some (lstV zl_1 0 1 l_1.length))) 6 (some (I r_.2))) 7 (some (lstV zs_1 1 3 s_1.length))) 8 (some (I r_1.2))) 9 (some (lstV zm_1 2 3 m_1.length))) 10 (some (lstV zr_8 3 3 r_8.length))) 11 (some (I r_2.2.2))) 13 (some (lstV zorder1 4 1 order1.length))) 14 (some (lstV zwant1 5 3 want1.length))), (upd (upd (upd (upd (upd (upd (fun _ => none) 0 (lstB zl_1 1 (l_1.map eI))) 1 (lstB zs_1 3 (s_1.map e_TJCell))) 2 (lstB zm_1 3 (m_1.map e_TJCell))) 3 (lstB zr_8 3 (r_8.map e_TJVal))) 4 (lstB zorder1 1 (order1.map eI))) 5 (lstB zwant1 3 (want1.map e_TJCell))), 6⟩ → R_ s
abbrev clerestorylaw4_HeapSays_l0_I (h_ : (List TJCell)) (roots : (List TJVal)) (r_ : ((List Int) × Int)) (r_1 : ((List TJCell) × Int)) (r_2 : ((List TJCell) × (List TJVal) × Int)) (r_6 : (List Int)) (F_ : Nat → (List Int) → (List TJCell) → (List TJCell) → (List TJVal) → (List Int) → (List TJCell) → Int → Option Bool) (o : Bool) : Nat → St → Prop := fun k s => ∃ (l_ : (List Int)), ∃ (s_ : (List TJCell)), ∃ (m_ : (List TJCell)), ∃ (r_7 : (List TJVal)), ∃ (order : (List Int)), ∃ (want : (List TJCell)), ∃ (v89 : Int), ∃ (zl : Bool), (zl = true → l_ = []) ∧ ∃ (zs : Bool), (zs = true → s_ = []) ∧ ∃ (zm : Bool), (zm = true → m_ = []) ∧ ∃ (zr_7 : Bool), (zr_7 = true → r_7 = []) ∧ ∃ (zorder : Bool), (zorder = true → order = []) ∧ ∃ (zwant : Bool), (zwant = true → want = []) ∧ F_ k l_ s_ m_ r_7 order want v89 = some o ∧ s = ⟨(upd (upd (upd (upd (upd (upd (upd (upd (upd (upd (upd (upd (upd (upd (fun _ => none) 0 (some (.c (.ro false 3 (h_.map e_TJCell))))) 1 (some (.c (.ro false 3 (roots.map e_TJVal))))) 5 (some (lstV zl 0 1 l_.length))) 6 (some (I r_.2))) 7 (some (lstV zs 1 3 s_.length))) 8 (some (I r_1.2))) 9 (some (lstV zm 2 3 m_.length))) 10 (some (lstV zr_7 3 3 r_7.length))) 11 (some (I r_2.2.2))) 13 (some (lstV zorder 4 1 order.length))) 14 (some (lstV zwant 5 3 want.length))) 87 (some (lstV zorder 4 1 order.length))) 88 (some (I (r_6.length : Int)))) 89 (some (I v89))), (upd (upd (upd (upd (upd (upd (fun _ => none) 0 (lstB zl 1 (l_.map eI))) 1 (lstB zs 3 (s_.map e_TJCell))) 2 (lstB zm 3 (m_.map e_TJCell))) 3 (lstB zr_7 3 (r_7.map e_TJVal))) 4 (lstB zorder 1 (order.map eI))) 5 (lstB zwant 3 (want.map e_TJCell))), 6⟩
abbrev clerestorylaw4_HeapSays_l0_H (h_ : (List TJCell)) (roots : (List TJVal)) (r_ : ((List Int) × Int)) (r_1 : ((List TJCell) × Int)) (r_2 : ((List TJCell) × (List TJVal) × Int)) (r_6 : (List Int)) (F_ : (List Int) → (List TJCell) → (List TJCell) → (List TJVal) → (List Int) → (List TJCell) → Int → Option Bool) (o : Bool) (R_ : St → Prop) : Prop := ∀ (l_ : (List Int)) (s_ : (List TJCell)) (m_ : (List TJCell)) (r_7 : (List TJVal)) (order : (List Int)) (want : (List TJCell)) (v89 : Int) (zl : Bool) (_ : zl = true → l_ = []) (zs : Bool) (_ : zs = true → s_ = []) (zm : Bool) (_ : zm = true → m_ = []) (zr_7 : Bool) (_ : zr_7 = true → r_7 = []) (zorder : Bool) (_ : zorder = true → order = []) (zwant : Bool) (_ : zwant = true → want = []), F_ l_ s_ m_ r_7 order want v89 = some o → ∀ s, Weak 0 s ⟨(upd (upd (upd (upd (upd (upd (upd (upd (upd (upd (upd (upd (upd (upd (fun _ => none) 0 (some (.c (.ro false 3 (h_.map e_TJCell))))) 1 (some (.c (.ro false 3 (roots.map e_TJVal))))) 5 (some (lstV zl 0 1 l_.length))) 6 (some (I r_.2))) 7 (some (lstV zs 1 3 s_.length))) 8 (some (I r_1.2))) 9 (some (lstV zm 2 3 m_.length))) 10 (some (lstV zr_7 3 3 r_7.length))) 11 (some (I r_2.2.2))) 13 (some (lstV zorder 4 1 order.length))) 14 (some (lstV zwant 5 3 want.length))) 87 (some (lstV zorder 4 1 order.length))) 88 (some (I (r_6.length : Int)))) 89 (some (I v89))), (upd (upd (upd (upd (upd (upd (fun _ => none) 0 (lstB zl 1 (l_.map eI))) 1 (lstB zs 3 (s_.map e_TJCell))) 2 (lstB zm 3 (m_.map e_TJCell))) 3 (lstB zr_7 3 (r_7.map e_TJVal))) 4 (lstB zorder 1 (order.map eI))) 5 (lstB zwant 3 (want.map e_TJCell))), 6⟩ → R_ s
noncomputable def clerestorylaw4_HeapSays_l0 (r_6 : (List Int)) (h_ : (List TJCell)) (roots : (List TJVal)) (r_ : ((List Int) × Int)) (r_1 : ((List TJCell) × Int)) (r_2 : ((List TJCell) × (List TJVal) × Int)) (K0_ : (List Int) → (List TJCell) → (List TJCell) → (List TJVal) → (List Int) → (List TJCell) → Option Bool) : Nat → (List Int) → (List TJCell) → (List TJCell) → (List TJVal) → (List Int) → (List TJCell) → Int → Option Bool
  | 0, _, _, _, _, _, _, _ => none
  | k + 1, l_, s_, m_, r_7, order, want, v89 =>
    if decide (v89 < (r_6.length : Int)) then
      (at? order v89).bind fun x_ =>
      (at? h_ x_).bind fun x_1 =>
      (at? want x_).bind fun x_2 =>
      (clerestorylaw4_HeapSays_l0 r_6 h_ roots r_ r_1 r_2 K0_ k) l_ s_ m_ r_7 order (want.set x_.toNat x_1) (wi (v89 + 1))
    else
      K0_ l_ s_ m_ r_7 order want
theorem clerestorylaw4_HeapSays_l0_ok {Γ : Glob} {Q : AExit → St → Prop} {r_6 : (List Int)} {h_ : (List TJCell)} {roots : (List TJVal)} {r_ : ((List Int) × Int)} {r_1 : ((List TJCell) × Int)} {r_2 : ((List TJCell) × (List TJVal) × Int)} {K0_ : (List Int) → (List TJCell) → (List TJCell) → (List TJVal) → (List Int) → (List TJCell) → Option Bool} {k : Nat} {l_ : (List Int)} {s_ : (List TJCell)} {m_ : (List TJCell)} {r_7 : (List TJVal)} {order : (List Int)} {want : (List TJCell)} {v89 : Int} {zl : Bool} (hzl : zl = true → l_ = []) {zs : Bool} (hzs : zs = true → s_ = []) {zm : Bool} (hzm : zm = true → m_ = []) {zr_7 : Bool} (hzr_7 : zr_7 = true → r_7 = []) {zorder : Bool} (hzorder : zorder = true → order = []) {zwant : Bool} (hzwant : zwant = true → want = []) {o : Bool} (h : clerestorylaw4_HeapSays_l0 r_6 h_ roots r_ r_1 r_2 K0_ k l_ s_ m_ r_7 order want v89 = some o)
    (hK0 : clerestorylaw4_HeapSays_l0_E0 h_ roots r_ r_1 r_2 K0_ o (Q (.exit 0)))
    (hr : ∀ s, Ends a5.results 0 (clerestorylaw4_HeapSays_post o) .ret s → Q .ret s) :
    Sv Try.prog Γ 0 (.loop a5_c0) Q ⟨(upd (upd (upd (upd (upd (upd (upd (upd (upd (upd (upd (upd (upd (upd (fun _ => none) 0 (some (.c (.ro false 3 (h_.map e_TJCell))))) 1 (some (.c (.ro false 3 (roots.map e_TJVal))))) 5 (some (lstV zl 0 1 l_.length))) 6 (some (I r_.2))) 7 (some (lstV zs 1 3 s_.length))) 8 (some (I r_1.2))) 9 (some (lstV zm 2 3 m_.length))) 10 (some (lstV zr_7 3 3 r_7.length))) 11 (some (I r_2.2.2))) 13 (some (lstV zorder 4 1 order.length))) 14 (some (lstV zwant 5 3 want.length))) 87 (some (lstV zorder 4 1 order.length))) 88 (some (I (r_6.length : Int)))) 89 (some (I v89))), (upd (upd (upd (upd (upd (upd (fun _ => none) 0 (lstB zl 1 (l_.map eI))) 1 (lstB zs 3 (s_.map e_TJCell))) 2 (lstB zm 3 (m_.map e_TJCell))) 3 (lstB zr_7 3 (r_7.map e_TJVal))) 4 (lstB zorder 1 (order.map eI))) 5 (lstB zwant 3 (want.map e_TJCell))), 6⟩ := by
  refine Sv.loop (I := clerestorylaw4_HeapSays_l0_I h_ roots r_ r_1 r_2 r_6 (clerestorylaw4_HeapSays_l0 r_6 h_ roots r_ r_1 r_2 K0_) o) (fun k s hI => ?_) ⟨l_, s_, m_, r_7, order, want, v89, zl, hzl, zs, hzs, zm, hzm, zr_7, hzr_7, zorder, hzorder, zwant, hzwant, h, rfl⟩
  clear h
  clear hzwant hzorder hzr_7 hzm hzs hzl zwant zorder zr_7 zm zs zl v89 want order r_7 m_ s_ l_
  obtain ⟨l_, s_, m_, r_7, order, want, v89, zl, hzl, zs, hzs, zm, hzm, zr_7, hzr_7, zorder, hzorder, zwant, hzwant, h, rfl⟩ := hI
  cases k with
  | zero => cases h
  | succ k =>
  rw [clerestorylaw4_HeapSays_l0] at h
  have hself : clerestorylaw4_HeapSays_l0_H h_ roots r_ r_1 r_2 r_6 (clerestorylaw4_HeapSays_l0 r_6 h_ roots r_ r_1 r_2 K0_ k) o (rnd 0 (clerestorylaw4_HeapSays_l0_I h_ roots r_ r_1 r_2 r_6 (clerestorylaw4_HeapSays_l0 r_6 h_ roots r_ r_1 r_2 K0_) o) k Q) := fun l_ s_ m_ r_7 order want v89 zl hzl zs hzs zm hzm zr_7 hzr_7 zorder hzorder zwant hzwant h s hw => ⟨_, k, hw, Nat.lt_succ_self k, l_, s_, m_, r_7, order, want, v89, zl, hzl, zs, hzs, zm, hzm, zr_7, hzr_7, zorder, hzorder, zwant, hzwant, h, rfl⟩
  refine Sv.seq ?_
  refine Sv.region ?_
  refine un (a1 (v := (B (decide (v89 < (r_6.length : Int))))) rfl ?_)
  refine dnil ?_
  refine Sv.seq ?_
  refine Sv.cond (b := decide (v89 < (r_6.length : Int))) rfl (fun hc9 => ?_) (fun hc9 => ?_)
  · replace h := ifT hc9 h
    refine Sv.skip ?_
    refine Sv.seq ?_
    refine Sv.block ?_
    refine Sv.seq ?_
    refine Sv.region ?_
    obtain ⟨x_, hx2, h⟩ := bnd h
    refine un (a1 (v := (.c (.ref 4 1 v89.toNat 0))) (s_iaddrL rfl rfl hzorder hx2) ?_)
    refine un (a1 (v := (I x_)) (s_loadL (z := zorder) (e := eI) rfl rfl hzorder hx2 rfl rfl) ?_)
    refine un (a1 rfl ?_)
    refine dnil ?_
    refine Sv.region ?_
    refine un (a1 rfl ?_)
    refine un (a1 rfl ?_)
    refine un (a1 rfl ?_)
    refine un (a1 rfl ?_)
    obtain ⟨x_1, hx3, h⟩ := bnd h
    refine un (a1 (v := (.c (.rop [cI x_1.Kind, .ro false 1 (x_1.Names.map eStr), .ro false 3 (x_1.Vals.map e_TJVal)]))) (s_iaddr (e := e_TJCell) (xs := h_) rfl rfl hx3) ?_)
    refine un (a1 (v := (.agg [cI x_1.Kind, .ro false 1 (x_1.Names.map eStr), .ro false 3 (x_1.Vals.map e_TJVal)])) rfl ?_)
    obtain ⟨x_2, hx4, h⟩ := bnd h
    refine un (a1 (v := (.c (.ref 5 3 x_.toNat 0))) (s_iaddrL rfl rfl hzwant hx4) ?_)
    refine un (a2n (h' := upd _ 5 (lstB zwant 3 ((want.set x_.toNat x_1).map e_TJCell))) (n' := 6) rfl (s_storeL (e := e_TJCell) (q' := x_1) rfl rfl hzwant hx4 rfl rfl rfl (Nat.le_of_ble_eq_true rfl) rfl) (fun h => by cases h) ?_)
    try rw [len_set want x_.toNat x_1]
    refine dnil ?_
    refine Sv.region ?_
    refine un (a1 (v := (I (wi (v89 + 1)))) rfl ?_)
    refine un (a1 rfl ?_)
    refine dnil ?_
    exact hself l_ s_ m_ r_7 order (want.set x_.toNat x_1) (wi (v89 + 1)) zl hzl zs hzs zm hzm zr_7 hzr_7 zorder hzorder zwant (hz_len hzwant (len_set want x_.toNat x_1)) h _ (weak_canon [0, 1, 2, 3, 4, 5] rfl (by decide) (by decide) (fun b h => absurd h (Nat.not_lt_zero _)) (.cons rfl (avAs_free rfl) (.cons rfl (avAs_free rfl) (.cons rfl (.c (lstC_ren rfl (by decide))) (.cons rfl (.c (lstC_ren rfl (by decide))) (.cons rfl (.c (lstC_ren rfl (by decide))) (.cons rfl (avAs_free rfl) (.cons rfl (.c (lstC_ren rfl (by decide))) (.cons rfl (.c (lstC_ren rfl (by decide))) (.cons rfl (avAs_free rfl) (.cons rfl (.c (lstC_ren rfl (by decide))) (.cons rfl (avAs_free rfl) (.cons rfl (.c (lstC_ren rfl (by decide))) (.cons rfl (avAs_free rfl) (.cons rfl (avAs_free rfl) .nil)))))))))))))) (.row (by decide) rfl (fr_map fun _ => rfl) (.row (by decide) rfl (fr_map fun _ => rfl) (.row (by decide) rfl (fr_map fun _ => rfl) (.row (by decide) rfl (fr_map fun _ => rfl) (.row (by decide) rfl (fr_map fun _ => rfl) (.row (by decide) rfl (fr_map fun _ => rfl) .nil)))))))
  · replace h := ifF hc9 h
    refine Sv.exit ?_
    exact hK0 l_ s_ m_ r_7 order want zl hzl zs hzs zm hzm zr_7 hzr_7 zorder hzorder zwant hzwant h _ (weak_canon [0, 1, 2, 3, 4, 5] rfl (by decide) (by decide) (fun b h => absurd h (Nat.not_lt_zero _)) (.cons rfl (.c (lstC_ren rfl (by decide))) (.cons rfl (.c (lstC_ren rfl (by decide))) (.cons rfl (avAs_free rfl) (.cons rfl (.c (lstC_ren rfl (by decide))) (.cons rfl (.c (lstC_ren rfl (by decide))) (.cons rfl (avAs_free rfl) (.cons rfl (.c (lstC_ren rfl (by decide))) (.cons rfl (avAs_free rfl) (.cons rfl (.c (lstC_ren rfl (by decide))) (.cons rfl (avAs_free rfl) (.cons rfl (avAs_free rfl) .nil))))))))))) (.row (by decide) rfl (fr_map fun _ => rfl) (.row (by decide) rfl (fr_map fun _ => rfl) (.row (by decide) rfl (fr_map fun _ => rfl) (.row (by decide) rfl (fr_map fun _ => rfl) (.row (by decide) rfl (fr_map fun _ => rfl) (.row (by decide) rfl (fr_map fun _ => rfl) .nil)))))))
noncomputable def clerestorylaw4_HeapSays_j1 (v4 : Bool) : Option Bool :=
  some v4
theorem clerestorylaw4_HeapSays_j1_ok {Γ : Glob} {v4 : Bool} {o : Bool} (h : clerestorylaw4_HeapSays_j1 v4 = some o) :
    Sv Try.prog Γ 0 a5_c1 (Ends a5.results 0 (clerestorylaw4_HeapSays_post o)) ⟨(upd (fun _ => none) 4 (some (B v4))), (fun _ => none), 0⟩ := by
  unfold clerestorylaw4_HeapSays_j1 at h
  refine Sv.ret ?_
  replace h := Option.some.inj h
  subst h
  exact ⟨_, .refl _, _, rfl, ⟨upd (fun _ => none) 0 (some (B v4)), (fun _ => none), 0⟩, (B v4), weak_canon [] rfl List.nodup_nil (Nat.le_refl _) (fun b h => absurd h (Nat.not_lt_zero _)) (.cons rfl (avAs_free rfl) .nil) .nil, rfl, rfl, rfl, rfl⟩
/-- clerestory/clerestorylaw4.HeapSays -/
noncomputable def clerestorylaw4_HeapSays (h_ : (List TJCell)) (roots : (List TJVal)) : Option Bool :=
  (heap_Reach h_ roots).bind fun r_ =>
  (heap_Sweep h_ roots).bind fun r_1 =>
  (heap_Move h_ roots).bind fun r_2 =>
  (heap_Check h_).bind fun r_3 =>
  (clerestoryref4_CellsRight h_).bind fun r_4 =>
  if (!decide (r_3 = r_4)) then
    some false
  else
    (clerestoryref4_HeapAsked h_ roots).bind fun r_5 =>
    if (!decide (r_5 = 0)) then
      some (((((((decide ((r_.1.length : Int) = 0)) && (decide (r_.2 = r_5))) && (decide ((r_1.1.length : Int) = 0))) && (decide (r_1.2 = r_5))) && (decide ((r_2.1.length : Int) = 0))) && (decide ((r_2.2.1.length : Int) = 0))) && (decide (r_2.2.2 = r_5)))
    else
      (clerestoryref4_ReachedCells h_ roots).bind fun r_6 =>
      (mkl? 56 (h_.length : Int) (h_.length : Int) ((⟨0, [], []⟩ : TJCell) : TJCell)).bind fun row =>
      lim fun kk => clerestorylaw4_HeapSays_l0 r_6 h_ roots r_ r_1 r_2 (fun (l_1 : (List Int)) (s_1 : (List TJCell)) (m_1 : (List TJCell)) (r_8 : (List TJVal)) (order1 : (List Int)) (want1 : (List TJCell)) => 
          (clerestoryref4_MovedCells h_ roots).bind fun r_9 =>
          (slices_Sorted_int order1).bind fun r_10 =>
          (slices_Equal_int l_1 r_10).bind fun r_11 =>
          if (r_11 && (decide (r_.2 = 0))) then
            (clerestoryref4_SameCells s_1 want1).bind fun r_12 =>
            if (r_12 && (decide (r_1.2 = 0))) then
              (clerestoryref4_SameCells m_1 r_9.1).bind fun r_13 =>
              if r_13 then
                (slices_Equal_JVal r_8 r_9.2).bind fun r_14 =>
                clerestorylaw4_HeapSays_j1 (r_14 && (decide (r_2.2.2 = 0)))
              else
                clerestorylaw4_HeapSays_j1 false
            else
              clerestorylaw4_HeapSays_j1 false
          else
            clerestorylaw4_HeapSays_j1 false) kk r_.1 r_1.1 r_2.1 r_2.2.1 r_6 row 0
theorem clerestorylaw4_HeapSays_ok {Γ : Glob} {h_ : (List TJCell)} {roots : (List TJVal)} {r : Bool} (h : clerestorylaw4_HeapSays h_ roots = some r) : CPure Try.prog Γ 5 [(.c (.ro false 3 (h_.map e_TJCell))), (.c (.ro false 3 (roots.map e_TJVal)))] (B r) := by
  refine acalls_of_sv hmix c5 (R := clerestorylaw4_HeapSays_post r) ?_
  unfold clerestorylaw4_HeapSays at h
  refine Sv.seq ?_
  refine Sv.region ?_
  refine un (a1 rfl ?_)
  refine dnil ?_
  refine Sv.seq ?_
  refine Sv.region ?_
  refine un (a1 rfl ?_)
  refine un (a1 rfl ?_)
  obtain ⟨r_, hr1, h⟩ := bnd h
  refine un (ac_gen (bs := []) («as» := [(.c (.ro false 3 (h_.map e_TJCell))), (.c (.ro false 3 (roots.map e_TJVal)))]) (h2 := _) (h1 := (fun _ => none)) (heap_Reach_ok hr1) rfl (.cons (avAs_free rfl) (.cons (avAs_free rfl) .nil)) (hsub_refl _) (.nil _) (fun _ => rfl) (by decide) (by decide) (.cons (avAs_free rfl) (.cons (avAs_free rfl) .nil)) .nil ?_)
  rintro _ _ _ hn ⟨z_, hz_, rfl, rfl, rfl⟩
  refine ⟨.inl rfl, (upd (rem [] _) 0 (lstB z_ 1 (r_.1.map eI))), fun hbd => (m3_cons (m3_row rfl (fr_map fun _ => rfl)) (m3_rem (in_nil _) (.cons (by decide) .nil) hbd)), (.tup [(lstV z_ 0 1 r_.1.length), (I r_.2)]), 1, (by cases z_ <;> rfl), rfl, ?_⟩
  refine un (a1 rfl ?_)
  refine un (a1 (v := (lstV z_ 0 1 r_.1.length)) rfl ?_)
  refine un (a1 (v := (I r_.2)) rfl ?_)
  refine un (a1 rfl ?_)
  refine un (a1 rfl ?_)
  refine dnil ?_
  refine Sv.seq ?_
  refine Sv.region ?_
  refine un (a1 rfl ?_)
  refine un (a1 rfl ?_)
  obtain ⟨r_1, hr2, h⟩ := bnd h
  refine un (ac_gen (bs := []) («as» := [(.c (.ro false 3 (h_.map e_TJCell))), (.c (.ro false 3 (roots.map e_TJVal)))]) (h2 := _) (h1 := (fun _ => none)) (heap_Sweep_ok hr2) rfl (.cons (avAs_free rfl) (.cons (avAs_free rfl) .nil)) (hsub_refl _) (.nil _) (fun _ => rfl) (by decide) (by decide) (.cons (avAs_free rfl) (.cons (avAs_free rfl) .nil)) .nil ?_)
  rintro _ _ _ hn ⟨z_1, hz_1, rfl, rfl, rfl⟩
  refine ⟨.inl rfl, (upd (rem [] _) 1 (lstB z_1 3 (r_1.1.map e_TJCell))), fun hbd => (m3_cons (m3_row rfl (fr_map fun _ => rfl)) (m3_rem (in_nil _) (.cons (by decide) .nil) hbd)), (.tup [(lstV z_1 1 3 r_1.1.length), (I r_1.2)]), 2, (by cases z_1 <;> rfl), rfl, ?_⟩
  refine un (a1 rfl ?_)
  refine un (a1 (v := (lstV z_1 1 3 r_1.1.length)) rfl ?_)
  refine un (a1 (v := (I r_1.2)) rfl ?_)
  refine un (a1 rfl ?_)
  refine un (a1 rfl ?_)
  refine dnil ?_
  refine Sv.seq ?_
  refine Sv.region ?_
  refine un (a1 rfl ?_)
  refine un (a1 rfl ?_)
  obtain ⟨r_2, hr3, h⟩ := bnd h
  refine un (ac_gen (bs := []) («as» := [(.c (.ro false 3 (h_.map e_TJCell))), (.c (.ro false 3 (roots.map e_TJVal)))]) (h2 := _) (h1 := (fun _ => none)) (heap_Move_ok hr3) rfl (.cons (avAs_free rfl) (.cons (avAs_free rfl) .nil)) (hsub_refl _) (.nil _) (fun _ => rfl) (by decide) (by decide) (.cons (avAs_free rfl) (.cons (avAs_free rfl) .nil)) .nil ?_)
  rintro _ _ _ hn ⟨z_2, hz_2, z_3, hz_3, rfl, rfl, rfl⟩
  refine ⟨.inl rfl, (upd (upd (rem [] _) 2 (lstB z_2 3 (r_2.1.map e_TJCell))) 3 (lstB z_3 3 (r_2.2.1.map e_TJVal))), fun hbd => (m3_cons (m3_row rfl (fr_map fun _ => rfl)) (m3_cons (m3_row rfl (fr_map fun _ => rfl)) (m3_rem (in_nil _) (.cons (by decide) (.cons (by decide) .nil)) hbd))), (.tup [(lstV z_2 2 3 r_2.1.length), (lstV z_3 3 3 r_2.2.1.length), (I r_2.2.2)]), 4, (by cases z_2 <;> cases z_3 <;> rfl), rfl, ?_⟩
  refine un (a1 rfl ?_)
  refine un (a1 (v := (lstV z_2 2 3 r_2.1.length)) rfl ?_)
  refine un (a1 (v := (lstV z_3 3 3 r_2.2.1.length)) rfl ?_)
  refine un (a1 (v := (I r_2.2.2)) rfl ?_)
  refine un (a1 rfl ?_)
  refine un (a1 rfl ?_)
  refine un (a1 rfl ?_)
  refine dnil ?_
  refine Sv.seq ?_
  refine Sv.seq ?_
  refine Sv.region ?_
  refine un (a1 rfl ?_)
  obtain ⟨r_3, hr4, h⟩ := bnd h
  refine un (ac_pure (heap_Check_ok hr4) rfl rfl rfl ?_)
  refine un (a1 rfl ?_)
  obtain ⟨r_4, hr5, h⟩ := bnd h
  refine un (ac_pure (clerestoryref4_CellsRight_ok hr5) rfl rfl rfl ?_)
  refine un (a1 (v := (B (!decide (r_3 = r_4)))) rfl ?_)
  refine dnil ?_
  refine Sv.cond (b := (!decide (r_3 = r_4))) rfl (fun hc1 => ?_) (fun hc1 => ?_)
  · replace h := ifT hc1 h
    refine Sv.seq ?_
    refine Sv.region ?_
    refine un (a1 rfl ?_)
    refine dnil ?_
    refine Sv.ret ?_
    replace h := Option.some.inj h
    subst h
    exact ⟨_, .refl _, _, rfl, ⟨upd (fun _ => none) 0 (some (B false)), (fun _ => none), 0⟩, (B false), weak_canon [] rfl List.nodup_nil (Nat.le_refl _) (fun b h => absurd h (Nat.not_lt_zero _)) (.cons rfl (avAs_free rfl) .nil) .nil, rfl, rfl, rfl, rfl⟩
  · replace h := ifF hc1 h
    refine Sv.skip ?_
    refine Sv.seq ?_
    refine Sv.seq ?_
    refine Sv.region ?_
    refine un (a1 rfl ?_)
    refine un (a1 rfl ?_)
    obtain ⟨r_5, hr6, h⟩ := bnd h
    refine un (ac_pure (clerestoryref4_HeapAsked_ok hr6) rfl rfl rfl ?_)
    refine un (a1 rfl ?_)
    refine dnil ?_
    refine Sv.seq ?_
    refine Sv.region ?_
    refine un (a1 rfl ?_)
    refine un (a1 (v := (B (!decide (r_5 = 0)))) rfl ?_)
    refine dnil ?_
    refine Sv.cond (b := (!decide (r_5 = 0))) rfl (fun hc2 => ?_) (fun hc2 => ?_)
    · replace h := ifT hc2 h
      refine Sv.seq ?_
      refine Sv.region ?_
      refine un (a1 rfl ?_)
      refine un (a1 (v := (I (r_.1.length : Int))) (s_lenL rfl (len_nil_of hz_)) ?_)
      refine un (a1 (v := (B (decide ((r_.1.length : Int) = 0)))) rfl ?_)
      refine un (a1 rfl ?_)
      refine gjoin 4 (d := 55) (v := (B ((decide ((r_.1.length : Int) = 0)) && (decide (r_.2 = r_5))))) (fun X hX => ?_) ?_
      · refine split2 (fun hc3 => ?_) (fun hc3 => ?_)
        · refine gt rfl (a1 rfl ?_)
          refine gt rfl (a1 rfl ?_)
          refine gt rfl (a1 (v := (B (decide (r_.2 = r_5)))) rfl ?_)
          refine un (a1 (v := (B (decide (r_.2 = r_5)))) rfl ?_)
          refine dnil ?_
          exact hX _ (.putEq (by rw [hc3]; rfl) (.skip _ _ (.skip _ _ (.skip _ _ (.putEq (by rw [hc3]) (.refl _)) rfl) rfl) rfl))
        · refine gs rfl rfl ?_
          refine gs rfl rfl ?_
          refine gs rfl rfl ?_
          refine un (a1 (v := (B false)) rfl ?_)
          refine dnil ?_
          exact hX _ (.putEq (by rw [hc3]; rfl) (.skip _ _ (.skip _ _ (.skip _ _ (.putEq (by rw [hc3]) (.refl _)) rfl) rfl) rfl))
      refine un (a1 rfl ?_)
      refine gjoin 4 (d := 60) (v := (B (((decide ((r_.1.length : Int) = 0)) && (decide (r_.2 = r_5))) && (decide ((r_1.1.length : Int) = 0))))) (fun X hX => ?_) ?_
      · refine split2 (fun hc4 => ?_) (fun hc4 => ?_)
        · refine gt rfl (a1 rfl ?_)
          refine gt rfl (a1 (v := (I (r_1.1.length : Int))) (s_lenL rfl (len_nil_of hz_1)) ?_)
          refine gt rfl (a1 (v := (B (decide ((r_1.1.length : Int) = 0)))) rfl ?_)
          refine un (a1 (v := (B (decide ((r_1.1.length : Int) = 0)))) rfl ?_)
          refine dnil ?_
          exact hX _ (.putEq (by rw [hc4]; rfl) (.skip _ _ (.skip _ _ (.skip _ _ (.putEq (by rw [hc4]) (.refl _)) rfl) rfl) rfl))
        · refine gs rfl rfl ?_
          refine gs rfl rfl ?_
          refine gs rfl rfl ?_
          refine un (a1 (v := (B false)) rfl ?_)
          refine dnil ?_
          exact hX _ (.putEq (by rw [hc4]; rfl) (.skip _ _ (.skip _ _ (.skip _ _ (.putEq (by rw [hc4]) (.refl _)) rfl) rfl) rfl))
      refine un (a1 rfl ?_)
      refine gjoin 4 (d := 65) (v := (B ((((decide ((r_.1.length : Int) = 0)) && (decide (r_.2 = r_5))) && (decide ((r_1.1.length : Int) = 0))) && (decide (r_1.2 = r_5))))) (fun X hX => ?_) ?_
      · refine split2 (fun hc5 => ?_) (fun hc5 => ?_)
        · refine gt rfl (a1 rfl ?_)
          refine gt rfl (a1 rfl ?_)
          refine gt rfl (a1 (v := (B (decide (r_1.2 = r_5)))) rfl ?_)
          refine un (a1 (v := (B (decide (r_1.2 = r_5)))) rfl ?_)
          refine dnil ?_
          exact hX _ (.putEq (by rw [hc5]; rfl) (.skip _ _ (.skip _ _ (.skip _ _ (.putEq (by rw [hc5]) (.refl _)) rfl) rfl) rfl))
        · refine gs rfl rfl ?_
          refine gs rfl rfl ?_
          refine gs rfl rfl ?_
          refine un (a1 (v := (B false)) rfl ?_)
          refine dnil ?_
          exact hX _ (.putEq (by rw [hc5]; rfl) (.skip _ _ (.skip _ _ (.skip _ _ (.putEq (by rw [hc5]) (.refl _)) rfl) rfl) rfl))
      refine un (a1 rfl ?_)
      refine gjoin 4 (d := 70) (v := (B (((((decide ((r_.1.length : Int) = 0)) && (decide (r_.2 = r_5))) && (decide ((r_1.1.length : Int) = 0))) && (decide (r_1.2 = r_5))) && (decide ((r_2.1.length : Int) = 0))))) (fun X hX => ?_) ?_
      · refine split2 (fun hc6 => ?_) (fun hc6 => ?_)
        · refine gt rfl (a1 rfl ?_)
          refine gt rfl (a1 (v := (I (r_2.1.length : Int))) (s_lenL rfl (len_nil_of hz_2)) ?_)
          refine gt rfl (a1 (v := (B (decide ((r_2.1.length : Int) = 0)))) rfl ?_)
          refine un (a1 (v := (B (decide ((r_2.1.length : Int) = 0)))) rfl ?_)
          refine dnil ?_
          exact hX _ (.putEq (by rw [hc6]; rfl) (.skip _ _ (.skip _ _ (.skip _ _ (.putEq (by rw [hc6]) (.refl _)) rfl) rfl) rfl))
        · refine gs rfl rfl ?_
          refine gs rfl rfl ?_
          refine gs rfl rfl ?_
          refine un (a1 (v := (B false)) rfl ?_)
          refine dnil ?_
          exact hX _ (.putEq (by rw [hc6]; rfl) (.skip _ _ (.skip _ _ (.skip _ _ (.putEq (by rw [hc6]) (.refl _)) rfl) rfl) rfl))
      refine un (a1 rfl ?_)
      refine gjoin 4 (d := 75) (v := (B ((((((decide ((r_.1.length : Int) = 0)) && (decide (r_.2 = r_5))) && (decide ((r_1.1.length : Int) = 0))) && (decide (r_1.2 = r_5))) && (decide ((r_2.1.length : Int) = 0))) && (decide ((r_2.2.1.length : Int) = 0))))) (fun X hX => ?_) ?_
      · refine split2 (fun hc7 => ?_) (fun hc7 => ?_)
        · refine gt rfl (a1 rfl ?_)
          refine gt rfl (a1 (v := (I (r_2.2.1.length : Int))) (s_lenL rfl (len_nil_of hz_3)) ?_)
          refine gt rfl (a1 (v := (B (decide ((r_2.2.1.length : Int) = 0)))) rfl ?_)
          refine un (a1 (v := (B (decide ((r_2.2.1.length : Int) = 0)))) rfl ?_)
          refine dnil ?_
          exact hX _ (.putEq (by rw [hc7]; rfl) (.skip _ _ (.skip _ _ (.skip _ _ (.putEq (by rw [hc7]) (.refl _)) rfl) rfl) rfl))
        · refine gs rfl rfl ?_
          refine gs rfl rfl ?_
          refine gs rfl rfl ?_
          refine un (a1 (v := (B false)) rfl ?_)
          refine dnil ?_
          exact hX _ (.putEq (by rw [hc7]; rfl) (.skip _ _ (.skip _ _ (.skip _ _ (.putEq (by rw [hc7]) (.refl _)) rfl) rfl) rfl))
      refine un (a1 rfl ?_)
      refine gjoin 4 (d := 80) (v := (B (((((((decide ((r_.1.length : Int) = 0)) && (decide (r_.2 = r_5))) && (decide ((r_1.1.length : Int) = 0))) && (decide (r_1.2 = r_5))) && (decide ((r_2.1.length : Int) = 0))) && (decide ((r_2.2.1.length : Int) = 0))) && (decide (r_2.2.2 = r_5))))) (fun X hX => ?_) ?_
      · refine split2 (fun hc8 => ?_) (fun hc8 => ?_)
        · refine gt rfl (a1 rfl ?_)
          refine gt rfl (a1 rfl ?_)
          refine gt rfl (a1 (v := (B (decide (r_2.2.2 = r_5)))) rfl ?_)
          refine un (a1 (v := (B (decide (r_2.2.2 = r_5)))) rfl ?_)
          refine dnil ?_
          exact hX _ (.putEq (by rw [hc8]; rfl) (.skip _ _ (.skip _ _ (.skip _ _ (.putEq (by rw [hc8]) (.refl _)) rfl) rfl) rfl))
        · refine gs rfl rfl ?_
          refine gs rfl rfl ?_
          refine gs rfl rfl ?_
          refine un (a1 (v := (B false)) rfl ?_)
          refine dnil ?_
          exact hX _ (.putEq (by rw [hc8]; rfl) (.skip _ _ (.skip _ _ (.skip _ _ (.putEq (by rw [hc8]) (.refl _)) rfl) rfl) rfl))
      refine un (a1 rfl ?_)
      refine dnil ?_
      refine Sv.ret ?_
      replace h := Option.some.inj h
      subst h
      exact ⟨_, .refl _, _, rfl, ⟨upd (fun _ => none) 0 (some (B (((((((decide ((r_.1.length : Int) = 0)) && (decide (r_.2 = r_5))) && (decide ((r_1.1.length : Int) = 0))) && (decide (r_1.2 = r_5))) && (decide ((r_2.1.length : Int) = 0))) && (decide ((r_2.2.1.length : Int) = 0))) && (decide (r_2.2.2 = r_5))))), (fun _ => none), 0⟩, (B (((((((decide ((r_.1.length : Int) = 0)) && (decide (r_.2 = r_5))) && (decide ((r_1.1.length : Int) = 0))) && (decide (r_1.2 = r_5))) && (decide ((r_2.1.length : Int) = 0))) && (decide ((r_2.2.1.length : Int) = 0))) && (decide (r_2.2.2 = r_5)))), weak_canon [] rfl List.nodup_nil (Nat.le_refl _) (fun b h => absurd h (Nat.not_lt_zero _)) (.cons rfl (avAs_free rfl) .nil) .nil, rfl, rfl, rfl, rfl⟩
    · replace h := ifF hc2 h
      refine Sv.skip ?_
      refine Sv.seq ?_
      refine Sv.region ?_
      refine un (a1 rfl ?_)
      refine un (a1 rfl ?_)
      obtain ⟨r_6, hr7, h⟩ := bnd h
      refine un (ac_gen (bs := []) («as» := [(.c (.ro false 3 (h_.map e_TJCell))), (.c (.ro false 3 (roots.map e_TJVal)))]) (h2 := _) (h1 := (fun _ => none)) (clerestoryref4_ReachedCells_ok hr7) rfl (.cons (avAs_free rfl) (.cons (avAs_free rfl) .nil)) (hsub_refl _) (.nil _) (fun _ => rfl) (by decide) (by decide) (.cons (avAs_free rfl) (.cons (avAs_free rfl) .nil)) .nil ?_)
      rintro _ _ _ hn ⟨z_4, hz_4, rfl, rfl, rfl⟩
      refine ⟨.inl rfl, (upd (rem [] _) 4 (lstB z_4 1 (r_6.map eI))), fun hbd => (m3_cons (m3_row rfl (fr_map fun _ => rfl)) (m3_rem (in_nil _) (.cons (by decide) .nil) hbd)), (lstV z_4 4 1 r_6.length), 5, (by cases z_4 <;> rfl), rfl, ?_⟩
      refine un (a1 rfl ?_)
      refine dnil ?_
      refine Sv.seq ?_
      refine Sv.region ?_
      refine un (a1 rfl ?_)
      refine un (a1 (v := (I (h_.length : Int))) (s_len (e := e_TJCell) (xs := h_) rfl) ?_)
      obtain ⟨row, hx1, h⟩ := bnd h
      refine un (a2mk (e := e_TJCell) rfl rfl hx1 (fun _ _ => (.cons (.same rfl) (.cons .nil (.cons .nil .nil)))) ?_)
      refine un (a1 rfl ?_)
      refine dnil ?_
      refine Sv.seq ?_
      refine Sv.seq ?_
      refine Sv.region ?_
      refine un (a1 rfl ?_)
      refine un (a1 (v := (I (r_6.length : Int))) (s_lenL rfl (len_nil_of hz_4)) ?_)
      refine un (a1 rfl ?_)
      refine dnil ?_
      refine Sv.block ?_
      obtain ⟨kk, h⟩ := lim_some h
      refine Sv.weak (weak_canon [0, 1, 2, 3, 4, 5] rfl (by decide) (by decide) (fun b h => absurd h (Nat.not_lt_zero _)) (.cons rfl (avAs_free rfl) (.cons rfl (avAs_free rfl) (.cons rfl (.c (lstC_ren rfl (by decide))) (.cons rfl (.c (lstC_ren rfl (by decide))) (.cons rfl (.c (lstC_ren rfl (by decide))) (.cons rfl (avAs_free rfl) (.cons rfl (.c (lstC_ren rfl (by decide))) (.cons rfl (.c (lstC_ren rfl (by decide))) (.cons rfl (avAs_free rfl) (.cons rfl (.c (lstC_ren rfl (by decide))) (.cons rfl (avAs_free rfl) (.cons rfl (.c (lstC_ren rfl (by decide))) (.cons rfl (avAs_free rfl) (.cons rfl (avAs_free rfl) .nil)))))))))))))) (.row (by decide) rfl (fr_map fun _ => rfl) (.row (by decide) rfl (fr_map fun _ => rfl) (.row (by decide) rfl (fr_map fun _ => rfl) (.row (by decide) rfl (fr_map fun _ => rfl) (.row (by decide) rfl (fr_map fun _ => rfl) (.row (by decide) rfl (fr_map fun _ => rfl) .nil))))))) (clerestorylaw4_HeapSays_l0_ok hz_ hz_1 hz_2 hz_3 hz_4 (fun h => by cases h) h ?_ (fun s hs => hs))
      · intro l_1 s_1 m_1 r_8 order1 want1 zl_1 hzl_1 zs_1 hzs_1 zm_1 hzm_1 zr_8 hzr_8 zorder1 hzorder1 zwant1 hzwant1 h _ hw1
        refine Sv.weak hw1 ?_
        refine Sv.seq ?_
        refine Sv.region ?_
        refine un (a1 rfl ?_)
        refine un (a1 rfl ?_)
        obtain ⟨r_9, hr8, h⟩ := bnd h
        refine un (ac_gen (bs := []) («as» := [(.c (.ro false 3 (h_.map e_TJCell))), (.c (.ro false 3 (roots.map e_TJVal)))]) (h2 := _) (h1 := (fun _ => none)) (clerestoryref4_MovedCells_ok hr8) rfl (.cons (avAs_free rfl) (.cons (avAs_free rfl) .nil)) (hsub_refl _) (.nil _) (fun _ => rfl) (by decide) (by decide) (.cons (avAs_free rfl) (.cons (avAs_free rfl) .nil)) .nil ?_)
        rintro _ _ _ hn ⟨z_5, hz_5, z_6, hz_6, rfl, rfl, rfl⟩
        refine ⟨.inl rfl, (upd (upd (rem [] _) 6 (lstB z_5 3 (r_9.1.map e_TJCell))) 7 (lstB z_6 3 (r_9.2.map e_TJVal))), fun hbd => (m3_cons (m3_row rfl (fr_map fun _ => rfl)) (m3_cons (m3_row rfl (fr_map fun _ => rfl)) (m3_rem (in_nil _) (.cons (by decide) (.cons (by decide) .nil)) hbd))), (.tup [(lstV z_5 6 3 r_9.1.length), (lstV z_6 7 3 r_9.2.length)]), 8, (by cases z_5 <;> cases z_6 <;> rfl), rfl, ?_⟩
        refine un (a1 rfl ?_)
        refine un (a1 (v := (lstV z_5 6 3 r_9.1.length)) rfl ?_)
        refine un (a1 (v := (lstV z_6 7 3 r_9.2.length)) rfl ?_)
        refine un (a1 rfl ?_)
        refine un (a1 rfl ?_)
        refine dnil ?_
        refine Sv.seq ?_
        refine Sv.region ?_
        refine un (a1 rfl ?_)
        refine un (a1 rfl ?_)
        refine dweak (show Weak 0 _ ⟨(upd (upd (upd (upd (upd (upd (upd (upd (upd (upd (upd (upd (upd (upd (upd (upd (upd (upd (upd (upd (upd (fun _ => none) 0 (some (.c (.ro false 3 (h_.map e_TJCell))))) 1 (some (.c (.ro false 3 (roots.map e_TJVal))))) 5 (some (lstV zl_1 0 1 l_1.length))) 6 (some (I r_.2))) 7 (some (lstV zs_1 1 3 s_1.length))) 8 (some (I r_1.2))) 9 (some (lstV zm_1 2 3 m_1.length))) 10 (some (lstV zr_8 3 3 r_8.length))) 11 (some (I r_2.2.2))) 13 (some (.c (.ro false 1 (order1.map eI))))) 14 (some (lstV zwant1 5 3 want1.length))) 17 (some (lstV z_5 6 3 r_9.1.length))) 18 (some (lstV z_6 7 3 r_9.2.length))) 101 (some (.tup [(lstV z_5 6 3 r_9.1.length), (lstV z_6 7 3 r_9.2.length)]))) 102 (some (.c (.ro false 3 (h_.map e_TJCell))))) 103 (some (.c (.ro false 3 (roots.map e_TJVal))))) 104 (some (.tup [(lstV z_5 6 3 r_9.1.length), (lstV z_6 7 3 r_9.2.length)]))) 105 (some (lstV z_5 6 3 r_9.1.length))) 106 (some (lstV z_6 7 3 r_9.2.length))) 107 (some (lstV zl_1 0 1 l_1.length))) 108 (some (.c (.ro false 1 (order1.map eI))))), (upd (upd (upd (upd (upd (upd (upd (fun _ => none) 0 (lstB zl_1 1 (l_1.map eI))) 1 (lstB zs_1 3 (s_1.map e_TJCell))) 2 (lstB zm_1 3 (m_1.map e_TJCell))) 3 (lstB zr_8 3 (r_8.map e_TJVal))) 5 (lstB zwant1 3 (want1.map e_TJCell))) 6 (lstB z_5 3 (r_9.1.map e_TJCell))) 7 (lstB z_6 3 (r_9.2.map e_TJVal))), 8⟩ from (weak_canon [0, 1, 2, 3, 1004, 5, 6, 7] rfl (by decide) (by decide) (fun b h => absurd h (Nat.not_lt_zero _)) (.cons rfl (.c (lstC_ro (es := List.map eI order1) rfl (List.length_map eI).symm (map_nil_of hzorder1) (fun b x hx => not_in (bs := [0, 1, 2, 3, 1004, 5, 6, 7]) rfl b (((.cons (by decide) (.cons (by decide) (.cons (by decide) (.cons (by decide) (.cons (by decide) (.cons (by decide) (.cons (by decide) .nil))))))) : HLt _ _) b x hx)) (fr_map fun _ => rfl))) (.cons rfl (.c (lstC_ren rfl (by decide))) (.cons rfl (.c (lstC_ren rfl (by decide))) (.cons rfl (.c (lstC_ren rfl (by decide))) (.cons rfl (avAs_tup (.cons (.c (lstC_ren rfl (by decide))) (.cons (.c (lstC_ren rfl (by decide))) .nil))) (.cons rfl (avAs_free rfl) (.cons rfl (avAs_free rfl) (.cons rfl (avAs_tup (.cons (.c (lstC_ren rfl (by decide))) (.cons (.c (lstC_ren rfl (by decide))) .nil))) (.cons rfl (.c (lstC_ren rfl (by decide))) (.cons rfl (.c (lstC_ren rfl (by decide))) (.cons rfl (.c (lstC_ren rfl (by decide))) (.cons rfl (.c (lstC_ro (es := List.map eI order1) rfl (List.length_map eI).symm (map_nil_of hzorder1) (fun b x hx => not_in (bs := [0, 1, 2, 3, 1004, 5, 6, 7]) rfl b (((.cons (by decide) (.cons (by decide) (.cons (by decide) (.cons (by decide) (.cons (by decide) (.cons (by decide) (.cons (by decide) .nil))))))) : HLt _ _) b x hx)) (fr_map fun _ => rfl))) (.cons rfl (avAs_free rfl) (.cons rfl (.c (lstC_ren rfl (by decide))) (.cons rfl (.c (lstC_ren rfl (by decide))) (.cons rfl (avAs_free rfl) (.cons rfl (.c (lstC_ren rfl (by decide))) (.cons rfl (avAs_free rfl) (.cons rfl (.c (lstC_ren rfl (by decide))) (.cons rfl (avAs_free rfl) (.cons rfl (avAs_free rfl) .nil))))))))))))))))))))) (.row (by decide) rfl (fr_map fun _ => rfl) (.row (by decide) rfl (fr_map fun _ => rfl) (.row (by decide) rfl (fr_map fun _ => rfl) (.row (by decide) rfl (fr_map fun _ => rfl) (.row (by decide) rfl (fr_map fun _ => rfl) (.row (by decide) rfl (fr_map fun _ => rfl) (.row (by decide) rfl (fr_map fun _ => rfl) .nil))))))))) ?_
        refine un (ac_gen (bs := []) («as» := [(.c (.ro false 1 (order1.map eI)))]) (h2 := _) (h1 := (fun _ => none)) (slices_Values_int_ok (Γ := Γ) order1) rfl (.cons (avAs_free rfl) .nil) (hsub_refl _) (.nil _) (fun _ => rfl) (by decide) (by decide) (.cons (avAs_free rfl) .nil) .nil ?_)
        rintro _ _ _ hn ⟨rfl, rfl, rfl⟩
        refine ⟨.inl rfl, (rem [] _), fun hbd => (m3_rem (in_nil _) (.nil) hbd), (.c (.fn (.func 60) [] [.rop [.ro false 1 (order1.map eI)]])), 8, rfl, rfl, ?_⟩
        obtain ⟨r_10, hr9, h⟩ := bnd h
        refine un (ac_gen (bs := []) («as» := [(.c (.fn (.func 60) [] [.rop [.ro false 1 (order1.map eI)]]))]) (h2 := _) (h1 := (fun _ => none)) (slices_Sorted_int_ok hr9) rfl (.cons (.c (fn_as .nil (.cons (.same rfl) .nil))) .nil) (hsub_refl _) (.nil _) (fun _ => rfl) (by decide) (by decide) (.cons (.c (fn_as .nil (.cons (.same rfl) .nil))) .nil) .nil ?_)
        rintro _ _ _ hn ⟨z_7, hz_7, rfl, rfl, rfl⟩
        refine ⟨.inl rfl, (upd (rem [] _) 8 (lstB z_7 1 (r_10.map eI))), fun hbd => (m3_cons (m3_row rfl (fr_map fun _ => rfl)) (m3_rem (in_nil _) (.cons (by decide) .nil) hbd)), (lstV z_7 8 1 r_10.length), 9, (by cases z_7 <;> rfl), rfl, ?_⟩
        obtain ⟨r_11, hr10, h⟩ := bnd h
        refine un (ac_lend (h2 := (upd (upd _ 0 none) 8 none)) (slices_Equal_int_ok hr10) rfl (.cons (.c (lstC_ro (es := List.map eI l_1) rfl (List.length_map eI).symm (map_nil_of hzl_1) (gone rfl) (fr_map fun _ => rfl))) (.cons (.c (lstC_ro (es := List.map eI r_10) rfl (List.length_map eI).symm (map_nil_of hz_7) (gone rfl) (fr_map fun _ => rfl))) .nil)) (hsub_none (hsub_none (hsub_refl _))) rfl rfl (.inr rfl) ?_)
        refine un (a1 rfl ?_)
        refine gjoin 3 (d := 115) (v := (B (r_11 && (decide (r_.2 = 0))))) (fun X hX => ?_) ?_
        · refine split2 (fun hc10 => ?_) (fun hc10 => ?_)
          · refine gt rfl (a1 rfl ?_)
            refine gt rfl (a1 (v := (B (decide (r_.2 = 0)))) rfl ?_)
            refine un (a1 (v := (B (decide (r_.2 = 0)))) rfl ?_)
            refine dnil ?_
            exact hX _ (.putEq (by rw [hc10]; rfl) (.skip _ _ (.skip _ _ (.putEq (by rw [hc10]) (.refl _)) rfl) rfl))
          · refine gs rfl rfl ?_
            refine gs rfl rfl ?_
            refine un (a1 (v := (B false)) rfl ?_)
            refine dnil ?_
            exact hX _ (.putEq (by rw [hc10]; rfl) (.skip _ _ (.skip _ _ (.putEq (by rw [hc10]) (.refl _)) rfl) rfl))
        refine un (a1 rfl ?_)
        refine split2 (fun hc11 => ?_) (fun hc11 => ?_)
        · replace h := ifT hc11 h
          refine gt rfl (a1 rfl ?_)
          refine gt rfl (a1 rfl ?_)
          obtain ⟨r_12, hr11, h⟩ := bnd h
          refine gt rfl (ac_lend (h2 := (upd (upd _ 1 none) 5 none)) (clerestoryref4_SameCells_ok hr11) rfl (.cons (.c (lstC_ro (es := List.map e_TJCell s_1) rfl (List.length_map e_TJCell).symm (map_nil_of hzs_1) (gone rfl) (fr_map fun _ => rfl))) (.cons (.c (lstC_ro (es := List.map e_TJCell want1) rfl (List.length_map e_TJCell).symm (map_nil_of hzwant1) (gone rfl) (fr_map fun _ => rfl))) .nil)) (hsub_none (hsub_none (hsub_refl _))) rfl rfl (.inr rfl) ?_)
          refine un (a1 (v := (B r_12)) rfl ?_)
          refine un (a1 rfl ?_)
          refine gjoin 3 (d := 124) (v := (B (r_12 && (decide (r_1.2 = 0))))) (fun X hX => ?_) ?_
          · refine split2 (fun hc12 => ?_) (fun hc12 => ?_)
            · refine gt rfl (a1 rfl ?_)
              refine gt rfl (a1 (v := (B (decide (r_1.2 = 0)))) rfl ?_)
              refine un (a1 (v := (B (decide (r_1.2 = 0)))) rfl ?_)
              refine dnil ?_
              exact hX _ (.putEq (by rw [hc12]; rfl) (.skip _ _ (.skip _ _ (.putEq (by rw [hc12]) (.refl _)) rfl) rfl))
            · refine gs rfl rfl ?_
              refine gs rfl rfl ?_
              refine un (a1 (v := (B false)) rfl ?_)
              refine dnil ?_
              exact hX _ (.putEq (by rw [hc12]; rfl) (.skip _ _ (.skip _ _ (.putEq (by rw [hc12]) (.refl _)) rfl) rfl))
          refine un (a1 rfl ?_)
          refine split2 (fun hc13 => ?_) (fun hc13 => ?_)
          · replace h := ifT hc13 h
            refine gt rfl (a1 rfl ?_)
            refine gt rfl (a1 rfl ?_)
            obtain ⟨r_13, hr12, h⟩ := bnd h
            refine gt rfl (ac_lend (h2 := (upd (upd _ 2 none) 6 none)) (clerestoryref4_SameCells_ok hr12) rfl (.cons (.c (lstC_ro (es := List.map e_TJCell m_1) rfl (List.length_map e_TJCell).symm (map_nil_of hzm_1) (gone rfl) (fr_map fun _ => rfl))) (.cons (.c (lstC_ro (es := List.map e_TJCell r_9.1) rfl (List.length_map e_TJCell).symm (map_nil_of hz_5) (gone rfl) (fr_map fun _ => rfl))) .nil)) (hsub_none (hsub_none (hsub_refl _))) rfl rfl (.inr rfl) ?_)
            refine un (a1 (v := (B r_13)) rfl ?_)
            refine un (a1 rfl ?_)
            refine split2 (fun hc14 => ?_) (fun hc14 => ?_)
            · replace h := ifT hc14 h
              refine gt rfl (a1 rfl ?_)
              refine gt rfl (a1 rfl ?_)
              obtain ⟨r_14, hr13, h⟩ := bnd h
              refine gt rfl (ac_lend (h2 := (upd (upd _ 3 none) 7 none)) (slices_Equal_JVal_ok hr13) rfl (.cons (.c (lstC_ro (es := List.map e_TJVal r_8) rfl (List.length_map e_TJVal).symm (map_nil_of hzr_8) (gone rfl) (fr_map fun _ => rfl))) (.cons (.c (lstC_ro (es := List.map e_TJVal r_9.2) rfl (List.length_map e_TJVal).symm (map_nil_of hz_6) (gone rfl) (fr_map fun _ => rfl))) .nil)) (hsub_none (hsub_none (hsub_refl _))) rfl rfl (.inr rfl) ?_)
              refine un (a1 (v := (B r_14)) rfl ?_)
              refine un (a1 rfl ?_)
              refine gjoin 3 (d := 138) (v := (B (r_14 && (decide (r_2.2.2 = 0))))) (fun X hX => ?_) ?_
              · refine split2 (fun hc15 => ?_) (fun hc15 => ?_)
                · refine gt rfl (a1 rfl ?_)
                  refine gt rfl (a1 (v := (B (decide (r_2.2.2 = 0)))) rfl ?_)
                  refine un (a1 (v := (B (decide (r_2.2.2 = 0)))) rfl ?_)
                  refine dnil ?_
                  exact hX _ (.putEq (by rw [hc15]; rfl) (.skip _ _ (.skip _ _ (.putEq (by rw [hc15]) (.refl _)) rfl) rfl))
                · refine gs rfl rfl ?_
                  refine gs rfl rfl ?_
                  refine un (a1 (v := (B false)) rfl ?_)
                  refine dnil ?_
                  exact hX _ (.putEq (by rw [hc15]; rfl) (.skip _ _ (.skip _ _ (.putEq (by rw [hc15]) (.refl _)) rfl) rfl))
              refine un (a1 rfl ?_)
              refine dnil ?_
              exact Sv.weak (weak_canon [] rfl (by decide) (by decide) (fun b h => absurd h (Nat.not_lt_zero _)) (.cons rfl (avAs_free rfl) .nil) .nil) (clerestorylaw4_HeapSays_j1_ok h)
            · replace h := ifF hc14 h
              refine gs rfl rfl ?_
              refine gs rfl rfl ?_
              refine gs rfl rfl ?_
              refine un (a1 (v := (B false)) rfl ?_)
              refine un (a1 rfl ?_)
              refine gs rfl rfl ?_
              refine gs rfl rfl ?_
              refine un (a1 (v := (B false)) rfl ?_)
              refine un (a1 rfl ?_)
              refine dnil ?_
              exact Sv.weak (weak_canon [] rfl (by decide) (by decide) (fun b h => absurd h (Nat.not_lt_zero _)) (.cons rfl (avAs_free rfl) .nil) .nil) (clerestorylaw4_HeapSays_j1_ok h)
          · replace h := ifF hc13 h
            refine gs rfl rfl ?_
            refine gs rfl rfl ?_
            refine gs rfl rfl ?_
            refine un (a1 (v := (B false)) rfl ?_)
            refine un (a1 rfl ?_)
            refine gs rfl rfl ?_
            refine gs rfl rfl ?_
            refine gs rfl rfl ?_
            refine un (a1 (v := (B false)) rfl ?_)
            refine un (a1 rfl ?_)
            refine gs rfl rfl ?_
            refine gs rfl rfl ?_
            refine un (a1 (v := (B false)) rfl ?_)
            refine un (a1 rfl ?_)
            refine dnil ?_
            exact Sv.weak (weak_canon [] rfl (by decide) (by decide) (fun b h => absurd h (Nat.not_lt_zero _)) (.cons rfl (avAs_free rfl) .nil) .nil) (clerestorylaw4_HeapSays_j1_ok h)
        · replace h := ifF hc11 h
          refine gs rfl rfl ?_
          refine gs rfl rfl ?_
          refine gs rfl rfl ?_
          refine un (a1 (v := (B false)) rfl ?_)
          refine un (a1 rfl ?_)
          refine gs rfl rfl ?_
          refine gs rfl rfl ?_
          refine un (a1 (v := (B false)) rfl ?_)
          refine un (a1 rfl ?_)
          refine gs rfl rfl ?_
          refine gs rfl rfl ?_
          refine gs rfl rfl ?_
          refine un (a1 (v := (B false)) rfl ?_)
          refine un (a1 rfl ?_)
          refine gs rfl rfl ?_
          refine gs rfl rfl ?_
          refine gs rfl rfl ?_
          refine un (a1 (v := (B false)) rfl ?_)
          refine un (a1 rfl ?_)
          refine gs rfl rfl ?_
          refine gs rfl rfl ?_
          refine un (a1 (v := (B false)) rfl ?_)
          refine un (a1 rfl ?_)
          refine dnil ?_
          exact Sv.weak (weak_canon [] rfl (by decide) (by decide) (fun b h => absurd h (Nat.not_lt_zero _)) (.cons rfl (avAs_free rfl) .nil) .nil) (clerestorylaw4_HeapSays_j1_ok h)
end Go.Proofs.YtoomjemboekooaaBv
