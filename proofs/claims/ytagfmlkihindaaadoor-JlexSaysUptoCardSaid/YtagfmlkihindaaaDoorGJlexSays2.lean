/- Printed by a program of mine (bgen.py): plain functions, and the walks that show that the code comes to what they answer. -/
import Derived.Test.YtagfmlkihindaaaDoorGJlexSays1
namespace Go.Proofs.YtagfmlkihindaaaDoorBv
open Go
set_option linter.unusedVariables false
set_option maxRecDepth 100000
def a17_c0 : ACode := (.cond (.tmp 67) .skip (.exit 3))
def a17_c1 : ACode := (.block 4 (.region [⟨(some 68), (.mov (.tmp 5)), none⟩, ⟨(some 69), (.bin .add (.tmp 68) (.const (.c (.val (.int .i64 1))))), none⟩, ⟨(some 5), (.mov (.tmp 69)), none⟩]))
def a17_c2 : ACode := (.seq (.seq (.region [⟨(some 58), (.mov (.tmp 5)), none⟩, ⟨(some 59), (.mov (.tmp 0)), none⟩, ⟨(some 60), (.lenS (.tmp 59)), none⟩, ⟨(some 61), (.bin .lss (.tmp 58) (.tmp 60)), none⟩, ⟨(some 62), (.mov (.tmp 61)), none⟩, ⟨(some 63), (.mov (.tmp 0)), (some (62, true))⟩, ⟨(some 64), (.mov (.tmp 5)), (some (62, true))⟩, ⟨(some 65), (.idxS (.tmp 63) (.tmp 64)), (some (62, true))⟩, ⟨(some 66), (.bin .neq (.tmp 65) (.const (.c (.val (.int .u8 10))))), (some (62, true))⟩, ⟨(some 67), (.pick (.tmp 62) (.tmp 66) (.const (.c (.val (.bool false))))), none⟩])
 a17_c0)
 a17_c1)
def a17_c3 : ACode := (.cond (.tmp 85) .skip (.exit 5))
def a17_c4 : ACode := (.block 6 (.seq (.drawn (.fin [(⟨(some 86), (.faddr 4 (.tmp 6)), none⟩, (0, 0)), (⟨(some 87), (.load false 1 (.tmp 86)), none⟩, (0, 1)), (⟨(some 88), (.bin .mul (.const (.c (.val (.int .i64 10)))) (.tmp 87)), none⟩, (0, 2)), (⟨(some 89), (.mov (.tmp 0)), none⟩, (0, 3)), (⟨(some 90), (.mov (.tmp 8)), none⟩, (0, 4)), (⟨(some 91), (.idxS (.tmp 89) (.tmp 90)), none⟩, (0, 5)), (⟨(some 92), (.bin .sub (.tmp 91) (.const (.c (.val (.int .u8 48))))), none⟩, (0, 6)), (⟨(some 93), (.conv .i64 (.tmp 92)), none⟩, (0, 7)), (⟨(some 94), (.bin .add (.tmp 88) (.tmp 93)), none⟩, (0, 8)), (⟨(some 95), (.faddr 4 (.tmp 6)), none⟩, (0, 9)), (⟨none, (.store 1 (.tmp 95) (.tmp 94)), none⟩, (2, 10))]))
 (.seq (.seq (.region [⟨(some 96), (.faddr 4 (.tmp 6)), none⟩, ⟨(some 97), (.load false 1 (.tmp 96)), none⟩, ⟨(some 98), (.bin .gtr (.tmp 97) (.const (.c (.val (.int .i64 9007199254740992))))), none⟩])
 (.cond (.tmp 98) (.seq (.region [⟨(some 2), (.mov (.const (.c (.ro true 5 [])))), none⟩, ⟨(some 3), (.mov (.const (.c (.val (.int .i64 2))))), none⟩])
 .ret) .skip))
 (.region [⟨(some 99), (.mov (.tmp 8)), none⟩, ⟨(some 100), (.bin .add (.tmp 99) (.const (.c (.val (.int .i64 1))))), none⟩, ⟨(some 8), (.mov (.tmp 100)), none⟩]))))
def a17_c5 : ACode := (.seq (.seq (.region [⟨(some 75), (.mov (.tmp 8)), none⟩, ⟨(some 76), (.mov (.tmp 0)), none⟩, ⟨(some 77), (.lenS (.tmp 76)), none⟩, ⟨(some 78), (.bin .lss (.tmp 75) (.tmp 77)), none⟩, ⟨(some 79), (.mov (.tmp 78)), none⟩, ⟨(some 80), (.mov (.tmp 0)), (some (79, true))⟩, ⟨(some 81), (.mov (.tmp 8)), (some (79, true))⟩, ⟨(some 82), (.idxS (.tmp 80) (.tmp 81)), (some (79, true))⟩, ⟨(some 83), (.conv .i64 (.tmp 82)), (some (79, true))⟩, ⟨(some 84), (.call 51 [(.tmp 83), (.const (.c (.val (.int .i64 48)))), (.const (.c (.val (.int .i64 57))))]), (some (79, true))⟩, ⟨(some 85), (.pick (.tmp 79) (.tmp 84) (.const (.c (.val (.bool false))))), none⟩])
 a17_c3)
 a17_c4)
def a17_c6 : ACode := (.cond (.tmp 110) (.seq (.region [⟨(some 2), (.mov (.const (.c (.ro true 5 [])))), none⟩, ⟨(some 3), (.mov (.const (.c (.val (.int .i64 4))))), none⟩])
 .ret) .skip)
def a17_c8 : ACode := (.cond (.tmp 123) .skip (.exit 7))
def a17_c9 : ACode := (.block 8 (.region [⟨(some 124), (.mov (.tmp 8)), none⟩, ⟨(some 125), (.bin .add (.tmp 124) (.const (.c (.val (.int .i64 1))))), none⟩, ⟨(some 8), (.mov (.tmp 125)), none⟩]))
def a17_c10 : ACode := (.seq (.seq (.region [⟨(some 114), (.mov (.tmp 8)), none⟩, ⟨(some 115), (.mov (.tmp 0)), none⟩, ⟨(some 116), (.lenS (.tmp 115)), none⟩, ⟨(some 117), (.bin .lss (.tmp 114) (.tmp 116)), none⟩, ⟨(some 118), (.mov (.tmp 117)), none⟩, ⟨(some 119), (.mov (.tmp 0)), (some (118, true))⟩, ⟨(some 120), (.mov (.tmp 8)), (some (118, true))⟩, ⟨(some 121), (.idxS (.tmp 119) (.tmp 120)), (some (118, true))⟩, ⟨(some 122), (.call 52 [(.tmp 121)]), (some (118, true))⟩, ⟨(some 123), (.pick (.tmp 118) (.tmp 122) (.const (.c (.val (.bool false))))), none⟩])
 a17_c8)
 a17_c9)
def a17_c7 : ACode := (.seq (.seq (.region [⟨(some 149), (.mov (.tmp 4)), none⟩, ⟨(some 150), (.len (.tmp 149)), none⟩, ⟨(some 151), (.bin .eql (.tmp 150) (.const (.c (.val (.int .i64 1000))))), none⟩])
 (.cond (.tmp 151) (.seq (.region [⟨(some 2), (.mov (.const (.c (.ro true 5 [])))), none⟩, ⟨(some 3), (.mov (.const (.c (.val (.int .i64 2))))), none⟩])
 .ret) .skip))
 (.seq (.region [⟨(some 152), (.mov (.tmp 8)), none⟩, ⟨(some 153), (.faddr 2 (.tmp 6)), none⟩, ⟨none, (.store 1 (.tmp 153) (.tmp 152)), none⟩])
 (.seq (.region [⟨(some 154), (.mov (.tmp 4)), none⟩, ⟨(some 155), (.load true 5 (.tmp 6)), none⟩, ⟨(some 156), (.bslice 5 [(.val (.int .i64 0)), (.val (.int .i64 0)), (.val (.int .i64 0)), (.str []), (.val (.int .i64 0))] 1 [(0, (.tmp 155))]), none⟩, ⟨(some 157), (.app 5 48 (.tmp 154) (.tmp 156)), none⟩, ⟨(some 4), (.mov (.tmp 157)), none⟩])
 (.region [⟨(some 158), (.mov (.tmp 8)), none⟩, ⟨(some 5), (.mov (.tmp 158)), none⟩]))))
def a17_c11 : ACode := (.seq (.seq (.region [⟨(some 12), (.mov (.tmp 5)), none⟩, ⟨(some 13), (.mov (.tmp 0)), none⟩, ⟨(some 14), (.lenS (.tmp 13)), none⟩, ⟨(some 15), (.bin .lss (.tmp 12) (.tmp 14)), none⟩])
 (.cond (.tmp 15) .skip (.exit 0)))
 (.block 1 (.seq (.region [⟨(some 16), (.mov (.tmp 5)), none⟩, ⟨(some 17), (.build [(.val (.int .i64 0)), (.val (.int .i64 0)), (.val (.int .i64 0)), (.str []), (.val (.int .i64 0))] [(1, (1, (.tmp 16)))]), none⟩, ⟨(some 6), (.box (.const (.agg [(.val (.int .i64 0)), (.val (.int .i64 0)), (.val (.int .i64 0)), (.str []), (.val (.int .i64 0))]))), none⟩, ⟨none, (.store 5 (.tmp 6) (.tmp 17)), none⟩])
 (.seq (.region [⟨(some 18), (.mov (.tmp 0)), none⟩, ⟨(some 19), (.mov (.tmp 5)), none⟩, ⟨(some 20), (.idxS (.tmp 18) (.tmp 19)), none⟩, ⟨(some 7), (.mov (.tmp 20)), none⟩])
 (.seq (.region [⟨(some 21), (.mov (.tmp 5)), none⟩, ⟨(some 8), (.mov (.tmp 21)), none⟩])
 (.seq (.block 2 (.seq (.region [⟨(some 37), (.mov (.tmp 7)), none⟩, ⟨(some 38), (.bin .eql (.tmp 37) (.const (.c (.val (.int .u8 32))))), none⟩, ⟨(some 39), (.mov (.tmp 38)), none⟩, ⟨(some 40), (.mov (.tmp 7)), (some (39, false))⟩, ⟨(some 41), (.bin .eql (.tmp 40) (.const (.c (.val (.int .u8 9))))), (some (39, false))⟩, ⟨(some 42), (.pick (.tmp 39) (.const (.c (.val (.bool true)))) (.tmp 41)), none⟩, ⟨(some 43), (.mov (.tmp 42)), none⟩, ⟨(some 44), (.mov (.tmp 7)), (some (43, false))⟩, ⟨(some 45), (.bin .eql (.tmp 44) (.const (.c (.val (.int .u8 10))))), (some (43, false))⟩, ⟨(some 46), (.pick (.tmp 43) (.const (.c (.val (.bool true)))) (.tmp 45)), none⟩, ⟨(some 47), (.mov (.tmp 46)), none⟩, ⟨(some 48), (.mov (.tmp 7)), (some (47, false))⟩, ⟨(some 49), (.bin .eql (.tmp 48) (.const (.c (.val (.int .u8 13))))), (some (47, false))⟩, ⟨(some 50), (.pick (.tmp 47) (.const (.c (.val (.bool true)))) (.tmp 49)), none⟩, ⟨(some 36), (.mov (.tmp 50)), none⟩])
 (.cond (.tmp 36) (.seq (.region [⟨(some 51), (.mov (.tmp 5)), none⟩, ⟨(some 52), (.bin .add (.tmp 51) (.const (.c (.val (.int .i64 1))))), none⟩, ⟨(some 5), (.mov (.tmp 52)), none⟩])
 (.exit 1)) (.seq (.region [⟨(some 54), (.mov (.tmp 0)), none⟩, ⟨(some 55), (.mov (.tmp 5)), none⟩, ⟨(some 56), (.slStr (.tmp 54) (some (.tmp 55)) none), none⟩, ⟨(some 57), (.call 50 [(.tmp 56), (.const (.c (.str [47, 47])))]), none⟩, ⟨(some 53), (.mov (.tmp 57)), none⟩])
 (.cond (.tmp 53) (.seq (.block 3 (.loop a17_c2))
 (.exit 1)) (.seq (.region [⟨(some 71), (.mov (.tmp 7)), none⟩, ⟨(some 72), (.conv .i64 (.tmp 71)), none⟩, ⟨(some 73), (.call 51 [(.tmp 72), (.const (.c (.val (.int .i64 48)))), (.const (.c (.val (.int .i64 57))))]), none⟩, ⟨(some 70), (.mov (.tmp 73)), none⟩])
 (.cond (.tmp 70) (.seq (.region [⟨(some 74), (.faddr 0 (.tmp 6)), none⟩, ⟨none, (.store 1 (.tmp 74) (.const (.c (.val (.int .i64 2))))), none⟩])
 (.seq (.block 5 (.loop a17_c5))
 (.seq (.region [⟨(some 101), (.mov (.tmp 8)), none⟩, ⟨(some 102), (.mov (.tmp 0)), none⟩, ⟨(some 103), (.lenS (.tmp 102)), none⟩, ⟨(some 104), (.bin .lss (.tmp 101) (.tmp 103)), none⟩, ⟨(some 105), (.mov (.tmp 104)), none⟩, ⟨(some 106), (.mov (.tmp 0)), (some (105, true))⟩, ⟨(some 107), (.mov (.tmp 8)), (some (105, true))⟩, ⟨(some 108), (.idxS (.tmp 106) (.tmp 107)), (some (105, true))⟩, ⟨(some 109), (.call 52 [(.tmp 108)]), (some (105, true))⟩, ⟨(some 110), (.pick (.tmp 105) (.tmp 109) (.const (.c (.val (.bool false))))), none⟩])
 a17_c6))) (.seq (.region [⟨(some 112), (.mov (.tmp 7)), none⟩, ⟨(some 113), (.call 52 [(.tmp 112)]), none⟩, ⟨(some 111), (.mov (.tmp 113)), none⟩])
 (.cond (.tmp 111) (.seq (.block 7 (.loop a17_c10))
 (.seq (.drawn (.fin [(⟨(some 126), (.mov (.tmp 0)), none⟩, (0, 0)), (⟨(some 127), (.mov (.tmp 5)), none⟩, (0, 1)), (⟨(some 128), (.mov (.tmp 8)), none⟩, (0, 2)), (⟨(some 129), (.slStr (.tmp 126) (some (.tmp 127)) (some (.tmp 128))), none⟩, (0, 3)), (⟨(some 130), (.faddr 0 (.tmp 6)), none⟩, (0, 4)), (⟨none, (.store 1 (.tmp 130) (.const (.c (.val (.int .i64 1))))), none⟩, (2, 5)), (⟨(some 131), (.faddr 3 (.tmp 6)), none⟩, (0, 6)), (⟨none, (.store 1 (.tmp 131) (.tmp 129)), none⟩, (2, 7))]))
 (.seq (.region [⟨(some 132), (.faddr 3 (.tmp 6)), none⟩, ⟨(some 133), (.load false 1 (.tmp 132)), none⟩, ⟨(some 134), (.call 53 [(.tmp 133)]), none⟩])
 (.cond (.tmp 134) (.region [⟨(some 135), (.faddr 0 (.tmp 6)), none⟩, ⟨none, (.store 1 (.tmp 135) (.const (.c (.val (.int .i64 5))))), none⟩]) .skip)))) (.seq (.region [⟨(some 137), (.mov (.tmp 7)), none⟩, ⟨(some 138), (.bin .eql (.tmp 137) (.const (.c (.val (.int .u8 34))))), none⟩, ⟨(some 136), (.mov (.tmp 138)), none⟩])
 (.cond (.tmp 136) (.seq (.region [⟨(some 139), (.faddr 0 (.tmp 6)), none⟩, ⟨none, (.store 1 (.tmp 139) (.const (.c (.val (.int .i64 3))))), none⟩])
 (.seq (.region [⟨(some 141), (.mov (.tmp 0)), none⟩, ⟨(some 142), (.mov (.tmp 5)), none⟩, ⟨(some 143), (.call 54 [(.tmp 141), (.tmp 142)]), none⟩, ⟨(some 140), (.mov (.tmp 143)), none⟩, ⟨(some 144), (.ext (.tmp 140) 0), none⟩, ⟨(some 145), (.ext (.tmp 140) 1), none⟩, ⟨(some 146), (.faddr 3 (.tmp 6)), none⟩, ⟨none, (.store 1 (.tmp 146) (.tmp 144)), none⟩, ⟨(some 8), (.mov (.tmp 145)), none⟩])
 (.seq (.region [⟨(some 147), (.mov (.tmp 8)), none⟩, ⟨(some 148), (.bin .lss (.tmp 147) (.const (.c (.val (.int .i64 0))))), none⟩])
 (.cond (.tmp 148) (.seq (.region [⟨(some 2), (.mov (.const (.c (.ro true 5 [])))), none⟩, ⟨(some 3), (.mov (.const (.c (.val (.int .i64 4))))), none⟩])
 .ret) .skip)))) (.seq (.region [⟨(some 22), (.mov (.tmp 0)), none⟩, ⟨(some 23), (.mov (.tmp 5)), none⟩, ⟨(some 24), (.slStr (.tmp 22) (some (.tmp 23)) none), none⟩, ⟨(some 25), (.call 55 [(.tmp 24)]), none⟩, ⟨(some 26), (.faddr 0 (.tmp 6)), none⟩, ⟨none, (.store 1 (.tmp 26) (.const (.c (.val (.int .i64 4))))), none⟩, ⟨(some 27), (.faddr 3 (.tmp 6)), none⟩, ⟨none, (.store 1 (.tmp 27) (.tmp 25)), none⟩])
 (.seq (.seq (.region [⟨(some 28), (.faddr 3 (.tmp 6)), none⟩, ⟨(some 29), (.load false 1 (.tmp 28)), none⟩, ⟨(some 30), (.bin .eql (.tmp 29) (.const (.c (.str [])))), none⟩])
 (.cond (.tmp 30) (.seq (.region [⟨(some 2), (.mov (.const (.c (.ro true 5 [])))), none⟩, ⟨(some 3), (.mov (.const (.c (.val (.int .i64 4))))), none⟩])
 .ret) .skip))
 (.region [⟨(some 31), (.mov (.tmp 8)), none⟩, ⟨(some 32), (.faddr 3 (.tmp 6)), none⟩, ⟨(some 33), (.load false 1 (.tmp 32)), none⟩, ⟨(some 34), (.lenS (.tmp 33)), none⟩, ⟨(some 35), (.bin .add (.tmp 31) (.tmp 34)), none⟩, ⟨(some 8), (.mov (.tmp 35)), none⟩]))))))))))))))
 a17_c7))))))
def a17 : AFunc := ⟨1, [(.tmp 2), (.tmp 3)], (.seq (.region [⟨(some 2), (.mov (.const (.c (.ro true 5 [])))), none⟩, ⟨(some 3), (.mov (.const (.c (.val (.int .i64 0))))), none⟩])
 (.seq (.seq (.region [⟨(some 9), (.mov (.tmp 0)), none⟩, ⟨(some 10), (.lenS (.tmp 9)), none⟩, ⟨(some 11), (.bin .gtr (.tmp 10) (.const (.c (.val (.int .i64 2000))))), none⟩])
 (.cond (.tmp 11) (.seq (.region [⟨(some 2), (.mov (.const (.c (.ro true 5 [])))), none⟩, ⟨(some 3), (.mov (.const (.c (.val (.int .i64 2))))), none⟩])
 .ret) .skip))
 (.seq (.region [⟨(some 4), (.mov (.const (.c (.ro true 5 [])))), none⟩])
 (.seq (.seq (.region [⟨(some 5), (.mov (.const (.c (.val (.int .i64 0))))), none⟩])
 (.block 0 (.loop a17_c11)))
 (.seq (.region [⟨(some 159), (.mov (.tmp 4)), none⟩, ⟨(some 2), (.mov (.tmp 159)), none⟩, ⟨(some 3), (.mov (.const (.c (.val (.int .i64 0))))), none⟩])
 .ret)))))⟩
set_option maxRecDepth 100000 in
theorem c17 : compFunc Tryd.prog 17 = some a17 := by kernel_rfl
def clerestoryref4_Tokened_post (r : ((List TJTok) × Int)) : AV → Heap → Nat → Prop := fun v h' n' => ∃ z0 : Bool, (z0 = true → r.1 = []) ∧ v = (.tup [(lstV z0 0 5 r.1.length), (I r.2)]) ∧ (h' = (upd (fun _ => none) 0 (lstB z0 5 (r.1.map e_TJTok)))) ∧ n' = 1
abbrev clerestoryref4_Tokened_q0 (mL : Int) (Q : AExit → St → Prop) : AExit → St → Prop := ABlock 1 Q
noncomputable def clerestoryref4_Tokened_j83 (at_ : Int) (s_ : (List UInt8)) (self : (List TJTok) → Int → Option ((List TJTok) × Int)) (K0_ : (List TJTok) → Option ((List TJTok) × Int)) (out2 : (List TJTok)) (t0 : Int) (t3 : (List UInt8)) (t4 : Int) (end_ : Int) : Option ((List TJTok) × Int) :=
  if decide ((out2.length : Int) = 1000) then
    some (([] : List TJTok), 2)
  else
    (app? 48 out2 [(⟨t0, at_, end_, t3, t4⟩ : TJTok)]).bind fun r_ =>
    self r_ end_
theorem clerestoryref4_Tokened_j83_ok {mL : Int} {Q : AExit → St → Prop} {at_ : Int} {s_ : (List UInt8)} {self : (List TJTok) → Int → Option ((List TJTok) × Int)} {K0_ : (List TJTok) → Option ((List TJTok) × Int)} {out2 : (List TJTok)} {t0 : Int} {t3 : (List UInt8)} {t4 : Int} {end_ : Int} {zout2 : Bool} (hzout2 : zout2 = true → out2 = []) {o : ((List TJTok) × Int)} (h : clerestoryref4_Tokened_j83 at_ s_ self K0_ out2 t0 t3 t4 end_ = some o)
    (hself : ∀ (out : (List TJTok)) (at_ : Int) (zout : Bool) (_ : zout = true → out = []), self out at_ = some o → ∀ s, Weak 0 s ⟨(upd (upd (upd (fun _ => none) 0 (some (S s_))) 4 (some (lstV zout 0 5 out.length))) 5 (some (I at_))), (upd (fun _ => none) 0 (lstB zout 5 (out.map e_TJTok))), 1⟩ → (Q) .normal s)
    (hK0 : ∀ (out1 : (List TJTok)) (zout1 : Bool) (_ : zout1 = true → out1 = []), K0_ out1 = some o → ∀ s, Weak 0 s ⟨(upd (fun _ => none) 4 (some (lstV zout1 0 5 out1.length))), (upd (fun _ => none) 0 (lstB zout1 5 (out1.map e_TJTok))), 1⟩ → Q (.exit 0) s)
    (hr : ∀ s, Ends a17.results 0 (clerestoryref4_Tokened_post o) .ret s → Q .ret s) :
    Sv Tryd.prog (GG mL) 0 a17_c7 (clerestoryref4_Tokened_q0 mL Q) ⟨(upd (upd (upd (upd (fun _ => none) 0 (some (S s_))) 4 (some (lstV zout2 0 5 out2.length))) 6 (some (.c (.ref 1 5 0 0)))) 8 (some (I end_))), (upd (upd (fun _ => none) 0 (lstB zout2 5 (out2.map e_TJTok))) 1 (some (.cells 5 [[cI t0, cI at_, cI 0, .str t3, cI t4]]))), 2⟩ := by
  unfold clerestoryref4_Tokened_j83 at h
  refine Sv.seq ?_
  refine Sv.seq ?_
  refine Sv.region ?_
  refine un (a1 rfl ?_)
  refine un (a1 (v := (I (out2.length : Int))) (s_lenL rfl (len_nil_of hzout2)) ?_)
  refine un (a1 (v := (B (decide ((out2.length : Int) = 1000)))) rfl ?_)
  refine dnil ?_
  refine Sv.cond (b := decide ((out2.length : Int) = 1000)) rfl (fun hc3 => ?_) (fun hc3 => ?_)
  · replace h := ifT hc3 h
    refine Sv.seq ?_
    refine Sv.region ?_
    refine un (a1 rfl ?_)
    refine un (a1 rfl ?_)
    refine dnil ?_
    refine Sv.ret ?_
    replace h := Option.some.inj h
    subst h
    exact hr _ ⟨_, .refl _, _, rfl, ⟨upd (fun _ => none) 0 (some (.tup [(lstV true 0 5 ([] : List TJTok).length), (I 2)])), (upd (fun _ => none) 0 (lstB true 5 (([] : List TJTok).map e_TJTok))), 1⟩, (.tup [(lstV true 0 5 ([] : List TJTok).length), (I 2)]), weak_canon2 [1000] [0] (by decide) (by decide) (fun b h => absurd h (Nat.not_lt_zero _)) (.cons (by decide) .nil) (.cons rfl (avAs_tup (.cons (.c (.same rfl)) (.cons (avAs_free rfl) .nil))) .nil) (.non (by decide) .nil), rfl, true, (fun _ => rfl), rfl, rfl, rfl⟩
  · replace h := ifF hc3 h
    refine Sv.skip ?_
    refine Sv.seq ?_
    refine Sv.region ?_
    refine un (a1 rfl ?_)
    refine un (a1 (v := (.c (.ref 1 5 0 2))) rfl ?_)
    refine un (a2n (h' := upd _ 1 (some (.cells 5 [[cI t0, cI at_, cI end_, .str t3, cI t4]]))) (n' := 2) rfl rfl (fun h => by cases h) ?_)
    refine dnil ?_
    refine Sv.seq ?_
    refine Sv.region ?_
    refine un (a1 rfl ?_)
    refine un (a1 (v := (.agg [cI t0, cI at_, cI end_, .str t3, cI t4])) rfl ?_)
    refine un (a2v (v := (lstV false 2 5 [(⟨t0, at_, end_, t3, t4⟩ : TJTok)].length)) (h' := upd _ 2 (lstB false 5 ([(⟨t0, at_, end_, t3, t4⟩ : TJTok)].map e_TJTok))) (n' := 3) rfl rfl (fun h => by cases h) ?_)
    obtain ⟨r_, hr1, h⟩ := bnd h
    have hz1 : (zout2 && [(⟨t0, at_, end_, t3, t4⟩ : TJTok)].isEmpty) = true → r_ = [] := app_nil (z := zout2) (ys := [(⟨t0, at_, end_, t3, t4⟩ : TJTok)]) hzout2 hr1
    refine un (a2v rfl (s_app (xs := out2) (ys := [(⟨t0, at_, end_, t3, t4⟩ : TJTok)]) (e := e_TJTok) (z := zout2) (b := 0) rfl rfl hzout2 rfl rfl (slc_lst rfl (List.length_map _).symm (map_nil_of (fun h => by cases h))) hr1) (fun h => by cases h) ?_)
    refine un (a1 rfl ?_)
    refine dnil ?_
    refine Sv.region ?_
    refine un (a1 rfl ?_)
    refine un (a1 rfl ?_)
    refine dnil ?_
    exact hself r_ end_ (zout2 && [(⟨t0, at_, end_, t3, t4⟩ : TJTok)].isEmpty) hz1 h _ (weak_canon [3] rfl (by decide) (by decide) (fun b h => absurd h (Nat.not_lt_zero _)) (.cons rfl (avAs_free rfl) (.cons rfl (.c (lstC_ren rfl (by decide))) (.cons rfl (avAs_free rfl) .nil))) (.row (by decide) rfl (fr_map fun _ => rfl) .nil))
abbrev clerestoryref4_Tokened_q1 (mL : Int) (Q : AExit → St → Prop) : AExit → St → Prop := AThen (Sv Tryd.prog (GG mL) 0 a17_c1 Q) Q
noncomputable def clerestoryref4_Tokened_j86 (at_1 : Int) (s_ : (List UInt8)) (self : (List TJTok) → Int → Option ((List TJTok) × Int)) (K3_ : (List TJTok) → Int → Option ((List TJTok) × Int)) (out5 : (List TJTok)) (v67 : Bool) : Option ((List TJTok) × Int) :=
  if v67 then
    self out5 (wi (at_1 + 1))
  else
    K3_ out5 at_1
theorem clerestoryref4_Tokened_j86_ok {mL : Int} {Q : AExit → St → Prop} {at_1 : Int} {s_ : (List UInt8)} {self : (List TJTok) → Int → Option ((List TJTok) × Int)} {K3_ : (List TJTok) → Int → Option ((List TJTok) × Int)} {out5 : (List TJTok)} {v67 : Bool} {zout5 : Bool} (hzout5 : zout5 = true → out5 = []) {o : ((List TJTok) × Int)} (h : clerestoryref4_Tokened_j86 at_1 s_ self K3_ out5 v67 = some o)
    (hself : ∀ (out3 : (List TJTok)) (at_1 : Int) (zout3 : Bool) (_ : zout3 = true → out3 = []), self out3 at_1 = some o → ∀ s, Weak 0 s ⟨(upd (upd (upd (fun _ => none) 0 (some (S s_))) 4 (some (lstV zout3 0 5 out3.length))) 5 (some (I at_1))), (upd (fun _ => none) 0 (lstB zout3 5 (out3.map e_TJTok))), 1⟩ → (Q) .normal s)
    (hK3 : ∀ (out4 : (List TJTok)) (at_2 : Int) (zout4 : Bool) (_ : zout4 = true → out4 = []), K3_ out4 at_2 = some o → ∀ s, Weak 0 s ⟨(upd (upd (upd (fun _ => none) 0 (some (S s_))) 4 (some (lstV zout4 0 5 out4.length))) 5 (some (I at_2))), (upd (fun _ => none) 0 (lstB zout4 5 (out4.map e_TJTok))), 1⟩ → Q (.exit 3) s)
    (hr : ∀ s, Ends a17.results 0 (clerestoryref4_Tokened_post o) .ret s → Q .ret s) :
    Sv Tryd.prog (GG mL) 0 a17_c0 (clerestoryref4_Tokened_q1 mL Q) ⟨(upd (upd (upd (upd (fun _ => none) 0 (some (S s_))) 4 (some (lstV zout5 0 5 out5.length))) 5 (some (I at_1))) 67 (some (B v67))), (upd (fun _ => none) 0 (lstB zout5 5 (out5.map e_TJTok))), 1⟩ := by
  unfold clerestoryref4_Tokened_j86 at h
  refine Sv.cond (b := v67) rfl (fun hc9 => ?_) (fun hc9 => ?_)
  · replace h := ifT hc9 h
    refine Sv.skip ?_
    refine Sv.block ?_
    refine Sv.region ?_
    refine un (a1 rfl ?_)
    refine un (a1 (v := (I (wi (at_1 + 1)))) rfl ?_)
    refine un (a1 rfl ?_)
    refine dnil ?_
    exact hself out5 (wi (at_1 + 1)) zout5 hzout5 h _ (weak_canon [0] rfl (by decide) (by decide) (fun b h => absurd h (Nat.not_lt_zero _)) (.cons rfl (avAs_free rfl) (.cons rfl (.c (lstC_ren rfl (by decide))) (.cons rfl (avAs_free rfl) .nil))) (.row (by decide) rfl (fr_map fun _ => rfl) .nil))
  · replace h := ifF hc9 h
    refine Sv.exit ?_
    exact hK3 out5 at_1 zout5 hzout5 h _ (weak_canon [0] rfl (by decide) (by decide) (fun b h => absurd h (Nat.not_lt_zero _)) (.cons rfl (avAs_free rfl) (.cons rfl (.c (lstC_ren rfl (by decide))) (.cons rfl (avAs_free rfl) .nil))) (.row (by decide) rfl (fr_map fun _ => rfl) .nil))
noncomputable def clerestoryref4_Tokened_l25 (s_ : (List UInt8)) (K3_ : (List TJTok) → Int → Option ((List TJTok) × Int)) : Nat → (List TJTok) → Int → Option ((List TJTok) × Int)
  | 0, _, _ => none
  | k + 1, out3, at_1 =>
    if decide (at_1 < (s_.length : Int)) then
      (at? s_ at_1).bind fun c_1 =>
      clerestoryref4_Tokened_j86 at_1 s_ (clerestoryref4_Tokened_l25 s_ K3_ k) K3_ out3 (!decide ((c_1.toNat : Int) = 10))
    else
      clerestoryref4_Tokened_j86 at_1 s_ (clerestoryref4_Tokened_l25 s_ K3_ k) K3_ out3 false
theorem clerestoryref4_Tokened_l25_ok {mL : Int} {Q : AExit → St → Prop} {s_ : (List UInt8)} {K3_ : (List TJTok) → Int → Option ((List TJTok) × Int)} {k : Nat} {out3 : (List TJTok)} {at_1 : Int} {zout3 : Bool} (hzout3 : zout3 = true → out3 = []) {o : ((List TJTok) × Int)} (h : clerestoryref4_Tokened_l25 s_ K3_ k out3 at_1 = some o)
    (hK3 : ∀ (out4 : (List TJTok)) (at_2 : Int) (zout4 : Bool) (_ : zout4 = true → out4 = []), K3_ out4 at_2 = some o → ∀ s, Weak 0 s ⟨(upd (upd (upd (fun _ => none) 0 (some (S s_))) 4 (some (lstV zout4 0 5 out4.length))) 5 (some (I at_2))), (upd (fun _ => none) 0 (lstB zout4 5 (out4.map e_TJTok))), 1⟩ → Q (.exit 3) s)
    (hr : ∀ s, Ends a17.results 0 (clerestoryref4_Tokened_post o) .ret s → Q .ret s) :
    Sv Tryd.prog (GG mL) 0 (.loop a17_c2) Q ⟨(upd (upd (upd (fun _ => none) 0 (some (S s_))) 4 (some (lstV zout3 0 5 out3.length))) 5 (some (I at_1))), (upd (fun _ => none) 0 (lstB zout3 5 (out3.map e_TJTok))), 1⟩ := by
  refine Sv.loop (I := fun k s => ∃ (out3 : (List TJTok)), ∃ (at_1 : Int), ∃ (zout3 : Bool), (zout3 = true → out3 = []) ∧ clerestoryref4_Tokened_l25 s_ K3_ k out3 at_1 = some o ∧ s = ⟨(upd (upd (upd (fun _ => none) 0 (some (S s_))) 4 (some (lstV zout3 0 5 out3.length))) 5 (some (I at_1))), (upd (fun _ => none) 0 (lstB zout3 5 (out3.map e_TJTok))), 1⟩) (fun k s hI => ?_) ⟨out3, at_1, zout3, hzout3, h, rfl⟩
  clear h
  clear hzout3 zout3 at_1 out3
  obtain ⟨out3, at_1, zout3, hzout3, h, rfl⟩ := hI
  cases k with
  | zero => cases h
  | succ k =>
  rw [clerestoryref4_Tokened_l25] at h
  have hself : ∀ (out3 : (List TJTok)) (at_1 : Int) (zout3 : Bool) (_ : zout3 = true → out3 = []), (clerestoryref4_Tokened_l25 s_ K3_ k) out3 at_1 = some o → ∀ s, Weak 0 s ⟨(upd (upd (upd (fun _ => none) 0 (some (S s_))) 4 (some (lstV zout3 0 5 out3.length))) 5 (some (I at_1))), (upd (fun _ => none) 0 (lstB zout3 5 (out3.map e_TJTok))), 1⟩ → (AThen (fun s' => ∃ s'' k', Weak 0 s' s'' ∧ k' < k + 1 ∧ (fun k s => ∃ (out3 : (List TJTok)), ∃ (at_1 : Int), ∃ (zout3 : Bool), (zout3 = true → out3 = []) ∧ clerestoryref4_Tokened_l25 s_ K3_ k out3 at_1 = some o ∧ s = ⟨(upd (upd (upd (fun _ => none) 0 (some (S s_))) 4 (some (lstV zout3 0 5 out3.length))) 5 (some (I at_1))), (upd (fun _ => none) 0 (lstB zout3 5 (out3.map e_TJTok))), 1⟩) k' s'') Q) .normal s := fun out3 at_1 zout3 hzout3 h s hw => ⟨_, k, hw, Nat.lt_succ_self k, out3, at_1, zout3, hzout3, h, rfl⟩
  refine Sv.seq ?_
  refine Sv.seq ?_
  refine Sv.region ?_
  refine un (a1 rfl ?_)
  refine un (a1 rfl ?_)
  refine un (a1 (v := (I (s_.length : Int))) rfl ?_)
  refine un (a1 (v := (B (decide (at_1 < (s_.length : Int))))) rfl ?_)
  refine un (a1 rfl ?_)
  refine split2 (fun hc10 => ?_) (fun hc10 => ?_)
  · replace h := ifT hc10 h
    refine gt rfl (a1 rfl ?_)
    refine gt rfl (a1 rfl ?_)
    obtain ⟨c_1, hx3, h⟩ := bnd h
    refine gt rfl (a1 (v := (.c (.val (.int .u8 (c_1.toNat : Int))))) (s_idxS rfl rfl hx3) ?_)
    refine gt rfl (a1 (v := (B (!decide ((c_1.toNat : Int) = 10)))) rfl ?_)
    refine un (a1 (v := (B (!decide ((c_1.toNat : Int) = 10)))) rfl ?_)
    refine dnil ?_
    exact Sv.weak (weak_canon [0] rfl (by decide) (by decide) (fun b h => absurd h (Nat.not_lt_zero _)) (.cons rfl (avAs_free rfl) (.cons rfl (avAs_free rfl) (.cons rfl (.c (lstC_ren rfl (by decide))) (.cons rfl (avAs_free rfl) .nil)))) (.row (by decide) rfl (fr_map fun _ => rfl) .nil)) (clerestoryref4_Tokened_j86_ok hzout3 h hself hK3 hr)
  · replace h := ifF hc10 h
    refine gs rfl rfl ?_
    refine gs rfl rfl ?_
    refine gs rfl rfl ?_
    refine gs rfl rfl ?_
    refine un (a1 (v := (B false)) rfl ?_)
    refine dnil ?_
    exact Sv.weak (weak_canon [0] rfl (by decide) (by decide) (fun b h => absurd h (Nat.not_lt_zero _)) (.cons rfl (avAs_free rfl) (.cons rfl (avAs_free rfl) (.cons rfl (.c (lstC_ren rfl (by decide))) (.cons rfl (avAs_free rfl) .nil)))) (.row (by decide) rfl (fr_map fun _ => rfl) .nil)) (clerestoryref4_Tokened_j86_ok hzout3 h hself hK3 hr)
abbrev clerestoryref4_Tokened_q2 (mL : Int) (Q : AExit → St → Prop) : AExit → St → Prop := AThen (Sv Tryd.prog (GG mL) 0 a17_c4 Q) Q
noncomputable def clerestoryref4_Tokened_j89 (s_ : (List UInt8)) (end_1 : Int) (t41 : Int) (at_ : Int) (self : (List TJTok) → Int → Int → Option ((List TJTok) × Int)) (K5_ : (List TJTok) → Int → Int → Option ((List TJTok) × Int)) (out8 : (List TJTok)) (v85 : Bool) : Option ((List TJTok) × Int) :=
  if v85 then
    (at? s_ end_1).bind fun c_2 =>
    letIn (decide (9007199254740992 < (wi ((wi (10 * t41)) + (wr .i64 (wr .u8 ((c_2.toNat : Int) - 48))))))) fun v98 : Bool =>
    if v98 then
      some (([] : List TJTok), 2)
    else
      self out8 (wi ((wi (10 * t41)) + (wr .i64 (wr .u8 ((c_2.toNat : Int) - 48))))) (wi (end_1 + 1))
  else
    K5_ out8 t41 end_1
theorem clerestoryref4_Tokened_j89_ok {mL : Int} {Q : AExit → St → Prop} {s_ : (List UInt8)} {end_1 : Int} {t41 : Int} {at_ : Int} {self : (List TJTok) → Int → Int → Option ((List TJTok) × Int)} {K5_ : (List TJTok) → Int → Int → Option ((List TJTok) × Int)} {out8 : (List TJTok)} {v85 : Bool} {zout8 : Bool} (hzout8 : zout8 = true → out8 = []) {o : ((List TJTok) × Int)} (h : clerestoryref4_Tokened_j89 s_ end_1 t41 at_ self K5_ out8 v85 = some o)
    (hself : ∀ (out6 : (List TJTok)) (t41 : Int) (end_1 : Int) (zout6 : Bool) (_ : zout6 = true → out6 = []), self out6 t41 end_1 = some o → ∀ s, Weak 0 s ⟨(upd (upd (upd (upd (fun _ => none) 0 (some (S s_))) 4 (some (lstV zout6 0 5 out6.length))) 6 (some (.c (.ref 1 5 0 0)))) 8 (some (I end_1))), (upd (upd (fun _ => none) 0 (lstB zout6 5 (out6.map e_TJTok))) 1 (some (.cells 5 [[cI 2, cI at_, cI 0, .str [], cI t41]]))), 2⟩ → (Q) .normal s)
    (hK5 : ∀ (out7 : (List TJTok)) (t42 : Int) (end_2 : Int) (zout7 : Bool) (_ : zout7 = true → out7 = []), K5_ out7 t42 end_2 = some o → ∀ s, Weak 0 s ⟨(upd (upd (upd (upd (fun _ => none) 0 (some (S s_))) 4 (some (lstV zout7 0 5 out7.length))) 6 (some (.c (.ref 1 5 0 0)))) 8 (some (I end_2))), (upd (upd (fun _ => none) 0 (lstB zout7 5 (out7.map e_TJTok))) 1 (some (.cells 5 [[cI 2, cI at_, cI 0, .str [], cI t42]]))), 2⟩ → Q (.exit 5) s)
    (hr : ∀ s, Ends a17.results 0 (clerestoryref4_Tokened_post o) .ret s → Q .ret s) :
    Sv Tryd.prog (GG mL) 0 a17_c3 (clerestoryref4_Tokened_q2 mL Q) ⟨(upd (upd (upd (upd (upd (fun _ => none) 0 (some (S s_))) 4 (some (lstV zout8 0 5 out8.length))) 6 (some (.c (.ref 1 5 0 0)))) 8 (some (I end_1))) 85 (some (B v85))), (upd (upd (fun _ => none) 0 (lstB zout8 5 (out8.map e_TJTok))) 1 (some (.cells 5 [[cI 2, cI at_, cI 0, .str [], cI t41]]))), 2⟩ := by
  unfold clerestoryref4_Tokened_j89 at h
  refine Sv.cond (b := v85) rfl (fun hc12 => ?_) (fun hc12 => ?_)
  · replace h := ifT hc12 h
    refine Sv.skip ?_
    refine Sv.block ?_
    refine Sv.seq ?_
    refine Sv.drawn ?_
    refine un (a1 (v := (.c (.ref 1 5 0 4))) rfl ?_)
    refine un (a1 (v := (I t41)) rfl ?_)
    refine un (a1 (v := (I (wi (10 * t41)))) rfl ?_)
    refine un (a1 rfl ?_)
    refine un (a1 rfl ?_)
    obtain ⟨c_2, hx4, h⟩ := bnd h
    refine un (a1 (v := (.c (.val (.int .u8 (c_2.toNat : Int))))) (s_idxS rfl rfl hx4) ?_)
    refine un (a1 (v := (.c (.val (.int .u8 (wr .u8 ((c_2.toNat : Int) - 48)))))) rfl ?_)
    refine un (a1 (v := (I (wr .i64 (wr .u8 ((c_2.toNat : Int) - 48))))) rfl ?_)
    refine un (a1 (v := (I (wi ((wi (10 * t41)) + (wr .i64 (wr .u8 ((c_2.toNat : Int) - 48))))))) rfl ?_)
    refine un (a1 (v := (.c (.ref 1 5 0 4))) rfl ?_)
    refine un (a2n (h' := upd _ 1 (some (.cells 5 [[cI 2, cI at_, cI 0, .str [], cI (wi ((wi (10 * t41)) + (wr .i64 (wr .u8 ((c_2.toNat : Int) - 48)))))]]))) (n' := 2) rfl rfl (fun h => by cases h) ?_)
    refine dnil ?_
    refine Sv.seq ?_
    refine Sv.seq ?_
    refine Sv.region ?_
    refine un (a1 (v := (.c (.ref 1 5 0 4))) rfl ?_)
    refine un (a1 (v := (I (wi ((wi (10 * t41)) + (wr .i64 (wr .u8 ((c_2.toNat : Int) - 48))))))) rfl ?_)
    obtain ⟨v98, hv98⟩ : ∃ v98 : Bool, v98 = decide (9007199254740992 < (wi ((wi (10 * t41)) + (wr .i64 (wr .u8 ((c_2.toNat : Int) - 48)))))) := ⟨_, rfl⟩
    replace h := letAt hv98 h
    refine un (a1 (v := (B v98)) (by rw [hv98]; rfl) ?_)
    clear hv98
    refine dnil ?_
    refine Sv.cond (b := v98) rfl (fun hc13 => ?_) (fun hc13 => ?_)
    · replace h := ifT hc13 h
      refine Sv.seq ?_
      refine Sv.region ?_
      refine un (a1 rfl ?_)
      refine un (a1 rfl ?_)
      refine dnil ?_
      refine Sv.ret ?_
      replace h := Option.some.inj h
      subst h
      exact hr _ ⟨_, .refl _, _, rfl, ⟨upd (fun _ => none) 0 (some (.tup [(lstV true 0 5 ([] : List TJTok).length), (I 2)])), (upd (fun _ => none) 0 (lstB true 5 (([] : List TJTok).map e_TJTok))), 1⟩, (.tup [(lstV true 0 5 ([] : List TJTok).length), (I 2)]), weak_canon2 [1000] [0] (by decide) (by decide) (fun b h => absurd h (Nat.not_lt_zero _)) (.cons (by decide) .nil) (.cons rfl (avAs_tup (.cons (.c (.same rfl)) (.cons (avAs_free rfl) .nil))) .nil) (.non (by decide) .nil), rfl, true, (fun _ => rfl), rfl, rfl, rfl⟩
    · replace h := ifF hc13 h
      refine Sv.skip ?_
      refine Sv.region ?_
      refine un (a1 rfl ?_)
      refine un (a1 (v := (I (wi (end_1 + 1)))) rfl ?_)
      refine un (a1 rfl ?_)
      refine dnil ?_
      exact hself out8 (wi ((wi (10 * t41)) + (wr .i64 (wr .u8 ((c_2.toNat : Int) - 48))))) (wi (end_1 + 1)) zout8 hzout8 h _ (weak_canon [0, 1] rfl (by decide) (by decide) (fun b h => absurd h (Nat.not_lt_zero _)) (.cons rfl (avAs_free rfl) (.cons rfl (.c (.ref rfl (by decide))) (.cons rfl (.c (lstC_ren rfl (by decide))) (.cons rfl (avAs_free rfl) .nil)))) (.box (by decide) rfl (blkAs_cells (.cons (.same rfl) (.cons (.same rfl) (.cons (.same rfl) (.cons (.same rfl) (.cons (.same rfl) .nil)))))) (.row (by decide) rfl (fr_map fun _ => rfl) .nil)))
  · replace h := ifF hc12 h
    refine Sv.exit ?_
    exact hK5 out8 t41 end_1 zout8 hzout8 h _ (weak_canon [0, 1] rfl (by decide) (by decide) (fun b h => absurd h (Nat.not_lt_zero _)) (.cons rfl (avAs_free rfl) (.cons rfl (.c (.ref rfl (by decide))) (.cons rfl (.c (lstC_ren rfl (by decide))) (.cons rfl (avAs_free rfl) .nil)))) (.box (by decide) rfl (blkAs_cells (.cons (.same rfl) (.cons (.same rfl) (.cons (.same rfl) (.cons (.same rfl) (.cons (.same rfl) .nil)))))) (.row (by decide) rfl (fr_map fun _ => rfl) .nil)))
noncomputable def clerestoryref4_Tokened_l26 (s_ : (List UInt8)) (at_ : Int) (K5_ : (List TJTok) → Int → Int → Option ((List TJTok) × Int)) : Nat → (List TJTok) → Int → Int → Option ((List TJTok) × Int)
  | 0, _, _, _ => none
  | k + 1, out6, t41, end_1 =>
    if decide (end_1 < (s_.length : Int)) then
      (at? s_ end_1).bind fun c_3 =>
      clerestoryref4_Tokened_j89 s_ end_1 t41 at_ (clerestoryref4_Tokened_l26 s_ at_ K5_ k) K5_ out6 (clerestoryref4_Between (wr .i64 (c_3.toNat : Int)) 48 57)
    else
      clerestoryref4_Tokened_j89 s_ end_1 t41 at_ (clerestoryref4_Tokened_l26 s_ at_ K5_ k) K5_ out6 false
theorem clerestoryref4_Tokened_l26_ok {mL : Int} {Q : AExit → St → Prop} {s_ : (List UInt8)} {at_ : Int} {K5_ : (List TJTok) → Int → Int → Option ((List TJTok) × Int)} {k : Nat} {out6 : (List TJTok)} {t41 : Int} {end_1 : Int} {zout6 : Bool} (hzout6 : zout6 = true → out6 = []) {o : ((List TJTok) × Int)} (h : clerestoryref4_Tokened_l26 s_ at_ K5_ k out6 t41 end_1 = some o)
    (hK5 : ∀ (out7 : (List TJTok)) (t42 : Int) (end_2 : Int) (zout7 : Bool) (_ : zout7 = true → out7 = []), K5_ out7 t42 end_2 = some o → ∀ s, Weak 0 s ⟨(upd (upd (upd (upd (fun _ => none) 0 (some (S s_))) 4 (some (lstV zout7 0 5 out7.length))) 6 (some (.c (.ref 1 5 0 0)))) 8 (some (I end_2))), (upd (upd (fun _ => none) 0 (lstB zout7 5 (out7.map e_TJTok))) 1 (some (.cells 5 [[cI 2, cI at_, cI 0, .str [], cI t42]]))), 2⟩ → Q (.exit 5) s)
    (hr : ∀ s, Ends a17.results 0 (clerestoryref4_Tokened_post o) .ret s → Q .ret s) :
    Sv Tryd.prog (GG mL) 0 (.loop a17_c5) Q ⟨(upd (upd (upd (upd (fun _ => none) 0 (some (S s_))) 4 (some (lstV zout6 0 5 out6.length))) 6 (some (.c (.ref 1 5 0 0)))) 8 (some (I end_1))), (upd (upd (fun _ => none) 0 (lstB zout6 5 (out6.map e_TJTok))) 1 (some (.cells 5 [[cI 2, cI at_, cI 0, .str [], cI t41]]))), 2⟩ := by
  refine Sv.loop (I := fun k s => ∃ (out6 : (List TJTok)), ∃ (t41 : Int), ∃ (end_1 : Int), ∃ (zout6 : Bool), (zout6 = true → out6 = []) ∧ clerestoryref4_Tokened_l26 s_ at_ K5_ k out6 t41 end_1 = some o ∧ s = ⟨(upd (upd (upd (upd (fun _ => none) 0 (some (S s_))) 4 (some (lstV zout6 0 5 out6.length))) 6 (some (.c (.ref 1 5 0 0)))) 8 (some (I end_1))), (upd (upd (fun _ => none) 0 (lstB zout6 5 (out6.map e_TJTok))) 1 (some (.cells 5 [[cI 2, cI at_, cI 0, .str [], cI t41]]))), 2⟩) (fun k s hI => ?_) ⟨out6, t41, end_1, zout6, hzout6, h, rfl⟩
  clear h
  clear hzout6 zout6 end_1 t41 out6
  obtain ⟨out6, t41, end_1, zout6, hzout6, h, rfl⟩ := hI
  cases k with
  | zero => cases h
  | succ k =>
  rw [clerestoryref4_Tokened_l26] at h
  have hself : ∀ (out6 : (List TJTok)) (t41 : Int) (end_1 : Int) (zout6 : Bool) (_ : zout6 = true → out6 = []), (clerestoryref4_Tokened_l26 s_ at_ K5_ k) out6 t41 end_1 = some o → ∀ s, Weak 0 s ⟨(upd (upd (upd (upd (fun _ => none) 0 (some (S s_))) 4 (some (lstV zout6 0 5 out6.length))) 6 (some (.c (.ref 1 5 0 0)))) 8 (some (I end_1))), (upd (upd (fun _ => none) 0 (lstB zout6 5 (out6.map e_TJTok))) 1 (some (.cells 5 [[cI 2, cI at_, cI 0, .str [], cI t41]]))), 2⟩ → (AThen (fun s' => ∃ s'' k', Weak 0 s' s'' ∧ k' < k + 1 ∧ (fun k s => ∃ (out6 : (List TJTok)), ∃ (t41 : Int), ∃ (end_1 : Int), ∃ (zout6 : Bool), (zout6 = true → out6 = []) ∧ clerestoryref4_Tokened_l26 s_ at_ K5_ k out6 t41 end_1 = some o ∧ s = ⟨(upd (upd (upd (upd (fun _ => none) 0 (some (S s_))) 4 (some (lstV zout6 0 5 out6.length))) 6 (some (.c (.ref 1 5 0 0)))) 8 (some (I end_1))), (upd (upd (fun _ => none) 0 (lstB zout6 5 (out6.map e_TJTok))) 1 (some (.cells 5 [[cI 2, cI at_, cI 0, .str [], cI t41]]))), 2⟩) k' s'') Q) .normal s := fun out6 t41 end_1 zout6 hzout6 h s hw => ⟨_, k, hw, Nat.lt_succ_self k, out6, t41, end_1, zout6, hzout6, h, rfl⟩
  refine Sv.seq ?_
  refine Sv.seq ?_
  refine Sv.region ?_
  refine un (a1 rfl ?_)
  refine un (a1 rfl ?_)
  refine un (a1 (v := (I (s_.length : Int))) rfl ?_)
  refine un (a1 (v := (B (decide (end_1 < (s_.length : Int))))) rfl ?_)
  refine un (a1 rfl ?_)
  refine split2 (fun hc14 => ?_) (fun hc14 => ?_)
  · replace h := ifT hc14 h
    refine gt rfl (a1 rfl ?_)
    refine gt rfl (a1 rfl ?_)
    obtain ⟨c_3, hx5, h⟩ := bnd h
    refine gt rfl (a1 (v := (.c (.val (.int .u8 (c_3.toNat : Int))))) (s_idxS rfl rfl hx5) ?_)
    refine gt rfl (a1 (v := (I (wr .i64 (c_3.toNat : Int)))) rfl ?_)
    refine gt rfl (ac_pure (clerestoryref4_Between_ok (mL := mL) (wr .i64 (c_3.toNat : Int)) 48 57) rfl rfl rfl ?_)
    refine un (a1 (v := (B (clerestoryref4_Between (wr .i64 (c_3.toNat : Int)) 48 57))) rfl ?_)
    refine dnil ?_
    exact Sv.weak (weak_canon [0, 1] rfl (by decide) (by decide) (fun b h => absurd h (Nat.not_lt_zero _)) (.cons rfl (avAs_free rfl) (.cons rfl (avAs_free rfl) (.cons rfl (.c (.ref rfl (by decide))) (.cons rfl (.c (lstC_ren rfl (by decide))) (.cons rfl (avAs_free rfl) .nil))))) (.box (by decide) rfl (blkAs_cells (.cons (.same rfl) (.cons (.same rfl) (.cons (.same rfl) (.cons (.same rfl) (.cons (.same rfl) .nil)))))) (.row (by decide) rfl (fr_map fun _ => rfl) .nil))) (clerestoryref4_Tokened_j89_ok hzout6 h hself hK5 hr)
  · replace h := ifF hc14 h
    refine gs rfl rfl ?_
    refine gs rfl rfl ?_
    refine gs rfl rfl ?_
    refine gs rfl rfl ?_
    refine gs rfl rfl ?_
    refine un (a1 (v := (B false)) rfl ?_)
    refine dnil ?_
    exact Sv.weak (weak_canon [0, 1] rfl (by decide) (by decide) (fun b h => absurd h (Nat.not_lt_zero _)) (.cons rfl (avAs_free rfl) (.cons rfl (avAs_free rfl) (.cons rfl (.c (.ref rfl (by decide))) (.cons rfl (.c (lstC_ren rfl (by decide))) (.cons rfl (avAs_free rfl) .nil))))) (.box (by decide) rfl (blkAs_cells (.cons (.same rfl) (.cons (.same rfl) (.cons (.same rfl) (.cons (.same rfl) (.cons (.same rfl) .nil)))))) (.row (by decide) rfl (fr_map fun _ => rfl) .nil))) (clerestoryref4_Tokened_j89_ok hzout6 h hself hK5 hr)
abbrev clerestoryref4_Tokened_q3 (mL : Int) (Q : AExit → St → Prop) : AExit → St → Prop := ABlock 1 Q
abbrev clerestoryref4_Tokened_q4 (mL : Int) (Q : AExit → St → Prop) : AExit → St → Prop := AThen (Sv Tryd.prog (GG mL) 0 a17_c7 (clerestoryref4_Tokened_q3 mL Q)) (clerestoryref4_Tokened_q3 mL Q)
abbrev clerestoryref4_Tokened_q5 (mL : Int) (Q : AExit → St → Prop) : AExit → St → Prop := ABlock 2 (clerestoryref4_Tokened_q4 mL Q)
noncomputable def clerestoryref4_Tokened_j90 (at_ : Int) (s_ : (List UInt8)) (t42 : Int) (end_2 : Int) (self : (List TJTok) → Int → Option ((List TJTok) × Int)) (K0_ : (List TJTok) → Option ((List TJTok) × Int)) (out9 : (List TJTok)) (v110 : Bool) : Option ((List TJTok) × Int) :=
  if v110 then
    some (([] : List TJTok), 4)
  else
    clerestoryref4_Tokened_j83 at_ s_ self K0_ out9 2 [] t42 end_2
theorem clerestoryref4_Tokened_j90_ok {mL : Int} {Q : AExit → St → Prop} {at_ : Int} {s_ : (List UInt8)} {t42 : Int} {end_2 : Int} {self : (List TJTok) → Int → Option ((List TJTok) × Int)} {K0_ : (List TJTok) → Option ((List TJTok) × Int)} {out9 : (List TJTok)} {v110 : Bool} {zout9 : Bool} (hzout9 : zout9 = true → out9 = []) {o : ((List TJTok) × Int)} (h : clerestoryref4_Tokened_j90 at_ s_ t42 end_2 self K0_ out9 v110 = some o)
    (hself : ∀ (out : (List TJTok)) (at_ : Int) (zout : Bool) (_ : zout = true → out = []), self out at_ = some o → ∀ s, Weak 0 s ⟨(upd (upd (upd (fun _ => none) 0 (some (S s_))) 4 (some (lstV zout 0 5 out.length))) 5 (some (I at_))), (upd (fun _ => none) 0 (lstB zout 5 (out.map e_TJTok))), 1⟩ → (Q) .normal s)
    (hK0 : ∀ (out1 : (List TJTok)) (zout1 : Bool) (_ : zout1 = true → out1 = []), K0_ out1 = some o → ∀ s, Weak 0 s ⟨(upd (fun _ => none) 4 (some (lstV zout1 0 5 out1.length))), (upd (fun _ => none) 0 (lstB zout1 5 (out1.map e_TJTok))), 1⟩ → Q (.exit 0) s)
    (hr : ∀ s, Ends a17.results 0 (clerestoryref4_Tokened_post o) .ret s → Q .ret s) :
    Sv Tryd.prog (GG mL) 0 a17_c6 (clerestoryref4_Tokened_q5 mL Q) ⟨(upd (upd (upd (upd (upd (fun _ => none) 0 (some (S s_))) 4 (some (lstV zout9 0 5 out9.length))) 6 (some (.c (.ref 1 5 0 0)))) 8 (some (I end_2))) 110 (some (B v110))), (upd (upd (fun _ => none) 0 (lstB zout9 5 (out9.map e_TJTok))) 1 (some (.cells 5 [[cI 2, cI at_, cI 0, .str [], cI t42]]))), 2⟩ := by
  unfold clerestoryref4_Tokened_j90 at h
  refine Sv.cond (b := v110) rfl (fun hc15 => ?_) (fun hc15 => ?_)
  · replace h := ifT hc15 h
    refine Sv.seq ?_
    refine Sv.region ?_
    refine un (a1 rfl ?_)
    refine un (a1 rfl ?_)
    refine dnil ?_
    refine Sv.ret ?_
    replace h := Option.some.inj h
    subst h
    exact hr _ ⟨_, .refl _, _, rfl, ⟨upd (fun _ => none) 0 (some (.tup [(lstV true 0 5 ([] : List TJTok).length), (I 4)])), (upd (fun _ => none) 0 (lstB true 5 (([] : List TJTok).map e_TJTok))), 1⟩, (.tup [(lstV true 0 5 ([] : List TJTok).length), (I 4)]), weak_canon2 [1000] [0] (by decide) (by decide) (fun b h => absurd h (Nat.not_lt_zero _)) (.cons (by decide) .nil) (.cons rfl (avAs_tup (.cons (.c (.same rfl)) (.cons (avAs_free rfl) .nil))) .nil) (.non (by decide) .nil), rfl, true, (fun _ => rfl), rfl, rfl, rfl⟩
  · replace h := ifF hc15 h
    refine Sv.skip ?_
    exact Sv.weak (weak_canon [0, 1] rfl (by decide) (by decide) (fun b h => absurd h (Nat.not_lt_zero _)) (.cons rfl (avAs_free rfl) (.cons rfl (.c (.ref rfl (by decide))) (.cons rfl (.c (lstC_ren rfl (by decide))) (.cons rfl (avAs_free rfl) .nil)))) (.box (by decide) rfl (blkAs_cells (.cons (.same rfl) (.cons (.same rfl) (.cons (.same rfl) (.cons (.same rfl) (.cons (.same rfl) .nil)))))) (.row (by decide) rfl (fr_map fun _ => rfl) .nil))) (clerestoryref4_Tokened_j83_ok hzout9 h hself hK0 hr)
abbrev clerestoryref4_Tokened_q6 (mL : Int) (Q : AExit → St → Prop) : AExit → St → Prop := AThen (Sv Tryd.prog (GG mL) 0 a17_c9 Q) Q
noncomputable def clerestoryref4_Tokened_j93 (end_3 : Int) (s_ : (List UInt8)) (at_ : Int) (self : (List TJTok) → Int → Option ((List TJTok) × Int)) (K7_ : (List TJTok) → Int → Option ((List TJTok) × Int)) (out12 : (List TJTok)) (v123 : Bool) : Option ((List TJTok) × Int) :=
  if v123 then
    self out12 (wi (end_3 + 1))
  else
    K7_ out12 end_3
theorem clerestoryref4_Tokened_j93_ok {mL : Int} {Q : AExit → St → Prop} {end_3 : Int} {s_ : (List UInt8)} {at_ : Int} {self : (List TJTok) → Int → Option ((List TJTok) × Int)} {K7_ : (List TJTok) → Int → Option ((List TJTok) × Int)} {out12 : (List TJTok)} {v123 : Bool} {zout12 : Bool} (hzout12 : zout12 = true → out12 = []) {o : ((List TJTok) × Int)} (h : clerestoryref4_Tokened_j93 end_3 s_ at_ self K7_ out12 v123 = some o)
    (hself : ∀ (out10 : (List TJTok)) (end_3 : Int) (zout10 : Bool) (_ : zout10 = true → out10 = []), self out10 end_3 = some o → ∀ s, Weak 0 s ⟨(upd (upd (upd (upd (upd (fun _ => none) 0 (some (S s_))) 4 (some (lstV zout10 0 5 out10.length))) 5 (some (I at_))) 6 (some (.c (.ref 1 5 0 0)))) 8 (some (I end_3))), (upd (upd (fun _ => none) 0 (lstB zout10 5 (out10.map e_TJTok))) 1 (some (.cells 5 [[cI 0, cI at_, cI 0, .str [], cI 0]]))), 2⟩ → (Q) .normal s)
    (hK7 : ∀ (out11 : (List TJTok)) (end_4 : Int) (zout11 : Bool) (_ : zout11 = true → out11 = []), K7_ out11 end_4 = some o → ∀ s, Weak 0 s ⟨(upd (upd (upd (upd (upd (fun _ => none) 0 (some (S s_))) 4 (some (lstV zout11 0 5 out11.length))) 5 (some (I at_))) 6 (some (.c (.ref 1 5 0 0)))) 8 (some (I end_4))), (upd (upd (fun _ => none) 0 (lstB zout11 5 (out11.map e_TJTok))) 1 (some (.cells 5 [[cI 0, cI at_, cI 0, .str [], cI 0]]))), 2⟩ → Q (.exit 7) s)
    (hr : ∀ s, Ends a17.results 0 (clerestoryref4_Tokened_post o) .ret s → Q .ret s) :
    Sv Tryd.prog (GG mL) 0 a17_c8 (clerestoryref4_Tokened_q6 mL Q) ⟨(upd (upd (upd (upd (upd (upd (fun _ => none) 0 (some (S s_))) 4 (some (lstV zout12 0 5 out12.length))) 5 (some (I at_))) 6 (some (.c (.ref 1 5 0 0)))) 8 (some (I end_3))) 123 (some (B v123))), (upd (upd (fun _ => none) 0 (lstB zout12 5 (out12.map e_TJTok))) 1 (some (.cells 5 [[cI 0, cI at_, cI 0, .str [], cI 0]]))), 2⟩ := by
  unfold clerestoryref4_Tokened_j93 at h
  refine Sv.cond (b := v123) rfl (fun hc18 => ?_) (fun hc18 => ?_)
  · replace h := ifT hc18 h
    refine Sv.skip ?_
    refine Sv.block ?_
    refine Sv.region ?_
    refine un (a1 rfl ?_)
    refine un (a1 (v := (I (wi (end_3 + 1)))) rfl ?_)
    refine un (a1 rfl ?_)
    refine dnil ?_
    exact hself out12 (wi (end_3 + 1)) zout12 hzout12 h _ (weak_canon [0, 1] rfl (by decide) (by decide) (fun b h => absurd h (Nat.not_lt_zero _)) (.cons rfl (avAs_free rfl) (.cons rfl (.c (.ref rfl (by decide))) (.cons rfl (avAs_free rfl) (.cons rfl (.c (lstC_ren rfl (by decide))) (.cons rfl (avAs_free rfl) .nil))))) (.box (by decide) rfl (blkAs_cells (.cons (.same rfl) (.cons (.same rfl) (.cons (.same rfl) (.cons (.same rfl) (.cons (.same rfl) .nil)))))) (.row (by decide) rfl (fr_map fun _ => rfl) .nil)))
  · replace h := ifF hc18 h
    refine Sv.exit ?_
    exact hK7 out12 end_3 zout12 hzout12 h _ (weak_canon [0, 1] rfl (by decide) (by decide) (fun b h => absurd h (Nat.not_lt_zero _)) (.cons rfl (avAs_free rfl) (.cons rfl (.c (.ref rfl (by decide))) (.cons rfl (avAs_free rfl) (.cons rfl (.c (lstC_ren rfl (by decide))) (.cons rfl (avAs_free rfl) .nil))))) (.box (by decide) rfl (blkAs_cells (.cons (.same rfl) (.cons (.same rfl) (.cons (.same rfl) (.cons (.same rfl) (.cons (.same rfl) .nil)))))) (.row (by decide) rfl (fr_map fun _ => rfl) .nil)))
noncomputable def clerestoryref4_Tokened_l27 (s_ : (List UInt8)) (at_ : Int) (K7_ : (List TJTok) → Int → Option ((List TJTok) × Int)) : Nat → (List TJTok) → Int → Option ((List TJTok) × Int)
  | 0, _, _ => none
  | k + 1, out10, end_3 =>
    if decide (end_3 < (s_.length : Int)) then
      (at? s_ end_3).bind fun c_5 =>
      clerestoryref4_Tokened_j93 end_3 s_ at_ (clerestoryref4_Tokened_l27 s_ at_ K7_ k) K7_ out10 (clerestoryref4_nameByte (c_5.toNat : Int))
    else
      clerestoryref4_Tokened_j93 end_3 s_ at_ (clerestoryref4_Tokened_l27 s_ at_ K7_ k) K7_ out10 false
theorem clerestoryref4_Tokened_l27_ok {mL : Int} {Q : AExit → St → Prop} {s_ : (List UInt8)} {at_ : Int} {K7_ : (List TJTok) → Int → Option ((List TJTok) × Int)} {k : Nat} {out10 : (List TJTok)} {end_3 : Int} {zout10 : Bool} (hzout10 : zout10 = true → out10 = []) {o : ((List TJTok) × Int)} (h : clerestoryref4_Tokened_l27 s_ at_ K7_ k out10 end_3 = some o)
    (hK7 : ∀ (out11 : (List TJTok)) (end_4 : Int) (zout11 : Bool) (_ : zout11 = true → out11 = []), K7_ out11 end_4 = some o → ∀ s, Weak 0 s ⟨(upd (upd (upd (upd (upd (fun _ => none) 0 (some (S s_))) 4 (some (lstV zout11 0 5 out11.length))) 5 (some (I at_))) 6 (some (.c (.ref 1 5 0 0)))) 8 (some (I end_4))), (upd (upd (fun _ => none) 0 (lstB zout11 5 (out11.map e_TJTok))) 1 (some (.cells 5 [[cI 0, cI at_, cI 0, .str [], cI 0]]))), 2⟩ → Q (.exit 7) s)
    (hr : ∀ s, Ends a17.results 0 (clerestoryref4_Tokened_post o) .ret s → Q .ret s) :
    Sv Tryd.prog (GG mL) 0 (.loop a17_c10) Q ⟨(upd (upd (upd (upd (upd (fun _ => none) 0 (some (S s_))) 4 (some (lstV zout10 0 5 out10.length))) 5 (some (I at_))) 6 (some (.c (.ref 1 5 0 0)))) 8 (some (I end_3))), (upd (upd (fun _ => none) 0 (lstB zout10 5 (out10.map e_TJTok))) 1 (some (.cells 5 [[cI 0, cI at_, cI 0, .str [], cI 0]]))), 2⟩ := by
  refine Sv.loop (I := fun k s => ∃ (out10 : (List TJTok)), ∃ (end_3 : Int), ∃ (zout10 : Bool), (zout10 = true → out10 = []) ∧ clerestoryref4_Tokened_l27 s_ at_ K7_ k out10 end_3 = some o ∧ s = ⟨(upd (upd (upd (upd (upd (fun _ => none) 0 (some (S s_))) 4 (some (lstV zout10 0 5 out10.length))) 5 (some (I at_))) 6 (some (.c (.ref 1 5 0 0)))) 8 (some (I end_3))), (upd (upd (fun _ => none) 0 (lstB zout10 5 (out10.map e_TJTok))) 1 (some (.cells 5 [[cI 0, cI at_, cI 0, .str [], cI 0]]))), 2⟩) (fun k s hI => ?_) ⟨out10, end_3, zout10, hzout10, h, rfl⟩
  clear h
  clear hzout10 zout10 end_3 out10
  obtain ⟨out10, end_3, zout10, hzout10, h, rfl⟩ := hI
  cases k with
  | zero => cases h
  | succ k =>
  rw [clerestoryref4_Tokened_l27] at h
  have hself : ∀ (out10 : (List TJTok)) (end_3 : Int) (zout10 : Bool) (_ : zout10 = true → out10 = []), (clerestoryref4_Tokened_l27 s_ at_ K7_ k) out10 end_3 = some o → ∀ s, Weak 0 s ⟨(upd (upd (upd (upd (upd (fun _ => none) 0 (some (S s_))) 4 (some (lstV zout10 0 5 out10.length))) 5 (some (I at_))) 6 (some (.c (.ref 1 5 0 0)))) 8 (some (I end_3))), (upd (upd (fun _ => none) 0 (lstB zout10 5 (out10.map e_TJTok))) 1 (some (.cells 5 [[cI 0, cI at_, cI 0, .str [], cI 0]]))), 2⟩ → (AThen (fun s' => ∃ s'' k', Weak 0 s' s'' ∧ k' < k + 1 ∧ (fun k s => ∃ (out10 : (List TJTok)), ∃ (end_3 : Int), ∃ (zout10 : Bool), (zout10 = true → out10 = []) ∧ clerestoryref4_Tokened_l27 s_ at_ K7_ k out10 end_3 = some o ∧ s = ⟨(upd (upd (upd (upd (upd (fun _ => none) 0 (some (S s_))) 4 (some (lstV zout10 0 5 out10.length))) 5 (some (I at_))) 6 (some (.c (.ref 1 5 0 0)))) 8 (some (I end_3))), (upd (upd (fun _ => none) 0 (lstB zout10 5 (out10.map e_TJTok))) 1 (some (.cells 5 [[cI 0, cI at_, cI 0, .str [], cI 0]]))), 2⟩) k' s'') Q) .normal s := fun out10 end_3 zout10 hzout10 h s hw => ⟨_, k, hw, Nat.lt_succ_self k, out10, end_3, zout10, hzout10, h, rfl⟩
  refine Sv.seq ?_
  refine Sv.seq ?_
  refine Sv.region ?_
  refine un (a1 rfl ?_)
  refine un (a1 rfl ?_)
  refine un (a1 (v := (I (s_.length : Int))) rfl ?_)
  refine un (a1 (v := (B (decide (end_3 < (s_.length : Int))))) rfl ?_)
  refine un (a1 rfl ?_)
  refine split2 (fun hc19 => ?_) (fun hc19 => ?_)
  · replace h := ifT hc19 h
    refine gt rfl (a1 rfl ?_)
    refine gt rfl (a1 rfl ?_)
    obtain ⟨c_5, hx7, h⟩ := bnd h
    refine gt rfl (a1 (v := (.c (.val (.int .u8 (c_5.toNat : Int))))) (s_idxS rfl rfl hx7) ?_)
    refine gt rfl (ac_pure (clerestoryref4_nameByte_ok (mL := mL) (c_5.toNat : Int)) rfl rfl rfl ?_)
    refine un (a1 (v := (B (clerestoryref4_nameByte (c_5.toNat : Int)))) rfl ?_)
    refine dnil ?_
    exact Sv.weak (weak_canon [0, 1] rfl (by decide) (by decide) (fun b h => absurd h (Nat.not_lt_zero _)) (.cons rfl (avAs_free rfl) (.cons rfl (avAs_free rfl) (.cons rfl (.c (.ref rfl (by decide))) (.cons rfl (avAs_free rfl) (.cons rfl (.c (lstC_ren rfl (by decide))) (.cons rfl (avAs_free rfl) .nil)))))) (.box (by decide) rfl (blkAs_cells (.cons (.same rfl) (.cons (.same rfl) (.cons (.same rfl) (.cons (.same rfl) (.cons (.same rfl) .nil)))))) (.row (by decide) rfl (fr_map fun _ => rfl) .nil))) (clerestoryref4_Tokened_j93_ok hzout10 h hself hK7 hr)
  · replace h := ifF hc19 h
    refine gs rfl rfl ?_
    refine gs rfl rfl ?_
    refine gs rfl rfl ?_
    refine gs rfl rfl ?_
    refine un (a1 (v := (B false)) rfl ?_)
    refine dnil ?_
    exact Sv.weak (weak_canon [0, 1] rfl (by decide) (by decide) (fun b h => absurd h (Nat.not_lt_zero _)) (.cons rfl (avAs_free rfl) (.cons rfl (avAs_free rfl) (.cons rfl (.c (.ref rfl (by decide))) (.cons rfl (avAs_free rfl) (.cons rfl (.c (lstC_ren rfl (by decide))) (.cons rfl (avAs_free rfl) .nil)))))) (.box (by decide) rfl (blkAs_cells (.cons (.same rfl) (.cons (.same rfl) (.cons (.same rfl) (.cons (.same rfl) (.cons (.same rfl) .nil)))))) (.row (by decide) rfl (fr_map fun _ => rfl) .nil))) (clerestoryref4_Tokened_j93_ok hzout10 h hself hK7 hr)
noncomputable def clerestoryref4_Tokened_l18 (s_ : (List UInt8)) (K0_ : (List TJTok) → Option ((List TJTok) × Int)) : Nat → (List TJTok) → Int → Option ((List TJTok) × Int)
  | 0, _, _ => none
  | k + 1, out, at_ =>
    if decide (at_ < (s_.length : Int)) then
      (at? s_ at_).bind fun c_ =>
      if ((((decide ((c_.toNat : Int) = 32)) || (decide ((c_.toNat : Int) = 9))) || (decide ((c_.toNat : Int) = 10))) || (decide ((c_.toNat : Int) = 13))) then
        (clerestoryref4_Tokened_l18 s_ K0_ k) out (wi (at_ + 1))
      else
        (sub? s_ at_ (s_.length : Int)).bind fun r_1 =>
        (strings_HasPrefix r_1 [47, 47]).bind fun r_2 =>
        if r_2 then
          lim fun kk => clerestoryref4_Tokened_l25 s_ (fun (out4 : (List TJTok)) (at_2 : Int) => 
              (clerestoryref4_Tokened_l18 s_ K0_ k) out4 at_2) kk out at_
        else
          if (clerestoryref4_Between (wr .i64 (c_.toNat : Int)) 48 57) then
            lim fun kk1 => clerestoryref4_Tokened_l26 s_ at_ (fun (out7 : (List TJTok)) (t42 : Int) (end_2 : Int) => 
                if decide (end_2 < (s_.length : Int)) then
                  (at? s_ end_2).bind fun c_4 =>
                  clerestoryref4_Tokened_j90 at_ s_ t42 end_2 (clerestoryref4_Tokened_l18 s_ K0_ k) K0_ out7 (clerestoryref4_nameByte (c_4.toNat : Int))
                else
                  clerestoryref4_Tokened_j90 at_ s_ t42 end_2 (clerestoryref4_Tokened_l18 s_ K0_ k) K0_ out7 false) kk1 out 0 at_
          else
            if (clerestoryref4_nameByte (c_.toNat : Int)) then
              lim fun kk2 => clerestoryref4_Tokened_l27 s_ at_ (fun (out11 : (List TJTok)) (end_4 : Int) => 
                  (sub? s_ at_ end_4).bind fun r_3 =>
                  (clerestoryref4_isWord r_3).bind fun r_4 =>
                  if r_4 then
                    clerestoryref4_Tokened_j83 at_ s_ (clerestoryref4_Tokened_l18 s_ K0_ k) K0_ out11 5 r_3 0 end_4
                  else
                    clerestoryref4_Tokened_j83 at_ s_ (clerestoryref4_Tokened_l18 s_ K0_ k) K0_ out11 1 r_3 0 end_4) kk2 out at_
            else
              if decide ((c_.toNat : Int) = 34) then
                (clerestoryref4_textAt s_ at_).bind fun r_5 =>
                if decide (r_5.2 < 0) then
                  some (([] : List TJTok), 4)
                else
                  clerestoryref4_Tokened_j83 at_ s_ (clerestoryref4_Tokened_l18 s_ K0_ k) K0_ out 3 r_5.1 0 r_5.2
              else
                (sub? s_ at_ (s_.length : Int)).bind fun r_6 =>
                (clerestoryref4_signAt r_6).bind fun r_7 =>
                if decide (r_7 = []) then
                  some (([] : List TJTok), 4)
                else
                  clerestoryref4_Tokened_j83 at_ s_ (clerestoryref4_Tokened_l18 s_ K0_ k) K0_ out 4 r_7 0 (wi (at_ + (r_7.length : Int)))
    else
      K0_ out
theorem clerestoryref4_Tokened_l18_ok {mL : Int} {Q : AExit → St → Prop} {s_ : (List UInt8)} {K0_ : (List TJTok) → Option ((List TJTok) × Int)} {k : Nat} {out : (List TJTok)} {at_ : Int} {zout : Bool} (hzout : zout = true → out = []) {o : ((List TJTok) × Int)} (h : clerestoryref4_Tokened_l18 s_ K0_ k out at_ = some o)
    (hK0 : ∀ (out1 : (List TJTok)) (zout1 : Bool) (_ : zout1 = true → out1 = []), K0_ out1 = some o → ∀ s, Weak 0 s ⟨(upd (fun _ => none) 4 (some (lstV zout1 0 5 out1.length))), (upd (fun _ => none) 0 (lstB zout1 5 (out1.map e_TJTok))), 1⟩ → Q (.exit 0) s)
    (hr : ∀ s, Ends a17.results 0 (clerestoryref4_Tokened_post o) .ret s → Q .ret s) :
    Sv Tryd.prog (GG mL) 0 (.loop a17_c11) Q ⟨(upd (upd (upd (fun _ => none) 0 (some (S s_))) 4 (some (lstV zout 0 5 out.length))) 5 (some (I at_))), (upd (fun _ => none) 0 (lstB zout 5 (out.map e_TJTok))), 1⟩ := by
  refine Sv.loop (I := fun k s => ∃ (out : (List TJTok)), ∃ (at_ : Int), ∃ (zout : Bool), (zout = true → out = []) ∧ clerestoryref4_Tokened_l18 s_ K0_ k out at_ = some o ∧ s = ⟨(upd (upd (upd (fun _ => none) 0 (some (S s_))) 4 (some (lstV zout 0 5 out.length))) 5 (some (I at_))), (upd (fun _ => none) 0 (lstB zout 5 (out.map e_TJTok))), 1⟩) (fun k s hI => ?_) ⟨out, at_, zout, hzout, h, rfl⟩
  clear h
  clear hzout zout at_ out
  obtain ⟨out, at_, zout, hzout, h, rfl⟩ := hI
  cases k with
  | zero => cases h
  | succ k =>
  rw [clerestoryref4_Tokened_l18] at h
  have hself : ∀ (out : (List TJTok)) (at_ : Int) (zout : Bool) (_ : zout = true → out = []), (clerestoryref4_Tokened_l18 s_ K0_ k) out at_ = some o → ∀ s, Weak 0 s ⟨(upd (upd (upd (fun _ => none) 0 (some (S s_))) 4 (some (lstV zout 0 5 out.length))) 5 (some (I at_))), (upd (fun _ => none) 0 (lstB zout 5 (out.map e_TJTok))), 1⟩ → (AThen (fun s' => ∃ s'' k', Weak 0 s' s'' ∧ k' < k + 1 ∧ (fun k s => ∃ (out : (List TJTok)), ∃ (at_ : Int), ∃ (zout : Bool), (zout = true → out = []) ∧ clerestoryref4_Tokened_l18 s_ K0_ k out at_ = some o ∧ s = ⟨(upd (upd (upd (fun _ => none) 0 (some (S s_))) 4 (some (lstV zout 0 5 out.length))) 5 (some (I at_))), (upd (fun _ => none) 0 (lstB zout 5 (out.map e_TJTok))), 1⟩) k' s'') Q) .normal s := fun out at_ zout hzout h s hw => ⟨_, k, hw, Nat.lt_succ_self k, out, at_, zout, hzout, h, rfl⟩
  refine Sv.seq ?_
  refine Sv.seq ?_
  refine Sv.region ?_
  refine un (a1 rfl ?_)
  refine un (a1 rfl ?_)
  refine un (a1 (v := (I (s_.length : Int))) rfl ?_)
  refine un (a1 (v := (B (decide (at_ < (s_.length : Int))))) rfl ?_)
  refine dnil ?_
  refine Sv.cond (b := decide (at_ < (s_.length : Int))) rfl (fun hc2 => ?_) (fun hc2 => ?_)
  · replace h := ifT hc2 h
    refine Sv.skip ?_
    refine Sv.block ?_
    refine Sv.seq ?_
    refine Sv.region ?_
    refine un (a1 rfl ?_)
    refine un (a1 (v := (.agg [cI 0, cI at_, cI 0, .str [], cI 0])) rfl ?_)
    refine un (a2v (v := (.c (.ref 1 5 0 0))) (h' := upd _ 1 (some (.cells 5 [[cI 0, cI 0, cI 0, .str [], cI 0]]))) (n' := 2) rfl rfl (fun h => by cases h) ?_)
    refine un (a2n (h' := upd _ 1 (some (.cells 5 [[cI 0, cI at_, cI 0, .str [], cI 0]]))) (n' := 2) rfl rfl (fun h => by cases h) ?_)
    refine dnil ?_
    refine Sv.seq ?_
    refine Sv.region ?_
    refine un (a1 rfl ?_)
    refine un (a1 rfl ?_)
    obtain ⟨c_, hx1, h⟩ := bnd h
    refine un (a1 (v := (.c (.val (.int .u8 (c_.toNat : Int))))) (s_idxS rfl rfl hx1) ?_)
    refine un (a1 rfl ?_)
    refine dnil ?_
    refine Sv.seq ?_
    refine Sv.region ?_
    refine un (a1 rfl ?_)
    refine un (a1 rfl ?_)
    refine dnil ?_
    refine Sv.seq ?_
    refine Sv.block ?_
    refine Sv.seq ?_
    refine Sv.region ?_
    refine un (a1 rfl ?_)
    refine un (a1 (v := (B (decide ((c_.toNat : Int) = 32)))) rfl ?_)
    refine un (a1 rfl ?_)
    refine gjoin 3 (d := 42) (v := (B ((decide ((c_.toNat : Int) = 32)) || (decide ((c_.toNat : Int) = 9))))) (fun X hX => ?_) ?_
    · refine split2 (fun hc4 => ?_) (fun hc4 => ?_)
      · refine gs rfl rfl ?_
        refine gs rfl rfl ?_
        refine un (a1 (v := (B true)) rfl ?_)
        refine dnil ?_
        exact hX _ (.putEq (by rw [hc4]; rfl) (.skip _ _ (.skip _ _ (.putEq (by rw [hc4]) (.refl _)) rfl) rfl))
      · refine gt rfl (a1 rfl ?_)
        refine gt rfl (a1 (v := (B (decide ((c_.toNat : Int) = 9)))) rfl ?_)
        refine un (a1 (v := (B (decide ((c_.toNat : Int) = 9)))) rfl ?_)
        refine dnil ?_
        exact hX _ (.putEq (by rw [hc4]; rfl) (.skip _ _ (.skip _ _ (.putEq (by rw [hc4]) (.refl _)) rfl) rfl))
    refine un (a1 rfl ?_)
    refine gjoin 3 (d := 46) (v := (B (((decide ((c_.toNat : Int) = 32)) || (decide ((c_.toNat : Int) = 9))) || (decide ((c_.toNat : Int) = 10))))) (fun X hX => ?_) ?_
    · refine split2 (fun hc5 => ?_) (fun hc5 => ?_)
      · refine gs rfl rfl ?_
        refine gs rfl rfl ?_
        refine un (a1 (v := (B true)) rfl ?_)
        refine dnil ?_
        exact hX _ (.putEq (by rw [hc5]; rfl) (.skip _ _ (.skip _ _ (.putEq (by rw [hc5]) (.refl _)) rfl) rfl))
      · refine gt rfl (a1 rfl ?_)
        refine gt rfl (a1 (v := (B (decide ((c_.toNat : Int) = 10)))) rfl ?_)
        refine un (a1 (v := (B (decide ((c_.toNat : Int) = 10)))) rfl ?_)
        refine dnil ?_
        exact hX _ (.putEq (by rw [hc5]; rfl) (.skip _ _ (.skip _ _ (.putEq (by rw [hc5]) (.refl _)) rfl) rfl))
    refine un (a1 rfl ?_)
    refine gjoin 3 (d := 50) (v := (B ((((decide ((c_.toNat : Int) = 32)) || (decide ((c_.toNat : Int) = 9))) || (decide ((c_.toNat : Int) = 10))) || (decide ((c_.toNat : Int) = 13))))) (fun X hX => ?_) ?_
    · refine split2 (fun hc6 => ?_) (fun hc6 => ?_)
      · refine gs rfl rfl ?_
        refine gs rfl rfl ?_
        refine un (a1 (v := (B true)) rfl ?_)
        refine dnil ?_
        exact hX _ (.putEq (by rw [hc6]; rfl) (.skip _ _ (.skip _ _ (.putEq (by rw [hc6]) (.refl _)) rfl) rfl))
      · refine gt rfl (a1 rfl ?_)
        refine gt rfl (a1 (v := (B (decide ((c_.toNat : Int) = 13)))) rfl ?_)
        refine un (a1 (v := (B (decide ((c_.toNat : Int) = 13)))) rfl ?_)
        refine dnil ?_
        exact hX _ (.putEq (by rw [hc6]; rfl) (.skip _ _ (.skip _ _ (.putEq (by rw [hc6]) (.refl _)) rfl) rfl))
    refine un (a1 rfl ?_)
    refine dnil ?_
    refine Sv.cond (b := ((((decide ((c_.toNat : Int) = 32)) || (decide ((c_.toNat : Int) = 9))) || (decide ((c_.toNat : Int) = 10))) || (decide ((c_.toNat : Int) = 13)))) rfl (fun hc7 => ?_) (fun hc7 => ?_)
    · replace h := ifT hc7 h
      refine Sv.seq ?_
      refine Sv.region ?_
      refine un (a1 rfl ?_)
      refine un (a1 (v := (I (wi (at_ + 1)))) rfl ?_)
      refine un (a1 rfl ?_)
      refine dnil ?_
      refine Sv.exit ?_
      exact hself out (wi (at_ + 1)) zout hzout h _ (weak_canon [0] rfl (by decide) (by decide) (fun b h => absurd h (Nat.not_lt_zero _)) (.cons rfl (avAs_free rfl) (.cons rfl (.c (lstC_ren rfl (by decide))) (.cons rfl (avAs_free rfl) .nil))) (.row (by decide) rfl (fr_map fun _ => rfl) .nil))
    · replace h := ifF hc7 h
      refine Sv.seq ?_
      refine Sv.region ?_
      refine un (a1 rfl ?_)
      refine un (a1 rfl ?_)
      obtain ⟨r_1, hx2, h⟩ := bnd h
      refine un (a1 (v := (S r_1)) (s_slStr rfl rfl rfl hx2) ?_)
      obtain ⟨r_2, hr2, h⟩ := bnd h
      refine un (ac_pure (strings_HasPrefix_ok hr2) rfl rfl rfl ?_)
      refine un (a1 rfl ?_)
      refine dnil ?_
      refine Sv.cond (b := r_2) rfl (fun hc8 => ?_) (fun hc8 => ?_)
      · replace h := ifT hc8 h
        refine Sv.seq ?_
        refine Sv.block ?_
        obtain ⟨kk, h⟩ := lim_some h
        refine Sv.weak (weak_canon [0] rfl (by decide) (by decide) (fun b h => absurd h (Nat.not_lt_zero _)) (.cons rfl (avAs_free rfl) (.cons rfl (.c (lstC_ren rfl (by decide))) (.cons rfl (avAs_free rfl) .nil))) (.row (by decide) rfl (fr_map fun _ => rfl) .nil)) (clerestoryref4_Tokened_l25_ok hzout h ?_ hr)
        · intro out4 at_2 zout4 hzout4 h _ hw1
          refine Sv.weak hw1 ?_
          refine Sv.exit ?_
          exact hself out4 at_2 zout4 hzout4 h _ (weak_canon [0] rfl (by decide) (by decide) (fun b h => absurd h (Nat.not_lt_zero _)) (.cons rfl (avAs_free rfl) (.cons rfl (.c (lstC_ren rfl (by decide))) (.cons rfl (avAs_free rfl) .nil))) (.row (by decide) rfl (fr_map fun _ => rfl) .nil))
      · replace h := ifF hc8 h
        refine Sv.seq ?_
        refine Sv.region ?_
        refine un (a1 rfl ?_)
        refine un (a1 (v := (I (wr .i64 (c_.toNat : Int)))) rfl ?_)
        refine un (ac_pure (clerestoryref4_Between_ok (mL := mL) (wr .i64 (c_.toNat : Int)) 48 57) rfl rfl rfl ?_)
        refine un (a1 rfl ?_)
        refine dnil ?_
        refine Sv.cond (b := (clerestoryref4_Between (wr .i64 (c_.toNat : Int)) 48 57)) rfl (fun hc11 => ?_) (fun hc11 => ?_)
        · replace h := ifT hc11 h
          refine Sv.seq ?_
          refine Sv.region ?_
          refine un (a1 (v := (.c (.ref 1 5 0 0))) rfl ?_)
          refine un (a2n (h' := upd _ 1 (some (.cells 5 [[cI 2, cI at_, cI 0, .str [], cI 0]]))) (n' := 2) rfl rfl (fun h => by cases h) ?_)
          refine dnil ?_
          refine Sv.seq ?_
          refine Sv.block ?_
          obtain ⟨kk1, h⟩ := lim_some h
          refine Sv.weak (weak_canon [0, 1] rfl (by decide) (by decide) (fun b h => absurd h (Nat.not_lt_zero _)) (.cons rfl (avAs_free rfl) (.cons rfl (.c (.ref rfl (by decide))) (.cons rfl (.c (lstC_ren rfl (by decide))) (.cons rfl (avAs_free rfl) .nil)))) (.box (by decide) rfl (blkAs_cells (.cons (.same rfl) (.cons (.same rfl) (.cons (.same rfl) (.cons (.same rfl) (.cons (.same rfl) .nil)))))) (.row (by decide) rfl (fr_map fun _ => rfl) .nil))) (clerestoryref4_Tokened_l26_ok hzout h ?_ hr)
          · intro out7 t42 end_2 zout7 hzout7 h _ hw2
            refine Sv.weak hw2 ?_
            refine Sv.seq ?_
            refine Sv.region ?_
            refine un (a1 rfl ?_)
            refine un (a1 rfl ?_)
            refine un (a1 (v := (I (s_.length : Int))) rfl ?_)
            refine un (a1 (v := (B (decide (end_2 < (s_.length : Int))))) rfl ?_)
            refine un (a1 rfl ?_)
            refine split2 (fun hc16 => ?_) (fun hc16 => ?_)
            · replace h := ifT hc16 h
              refine gt rfl (a1 rfl ?_)
              refine gt rfl (a1 rfl ?_)
              obtain ⟨c_4, hx6, h⟩ := bnd h
              refine gt rfl (a1 (v := (.c (.val (.int .u8 (c_4.toNat : Int))))) (s_idxS rfl rfl hx6) ?_)
              refine gt rfl (ac_pure (clerestoryref4_nameByte_ok (mL := mL) (c_4.toNat : Int)) rfl rfl rfl ?_)
              refine un (a1 (v := (B (clerestoryref4_nameByte (c_4.toNat : Int)))) rfl ?_)
              refine dnil ?_
              exact Sv.weak (weak_canon [0, 1] rfl (by decide) (by decide) (fun b h => absurd h (Nat.not_lt_zero _)) (.cons rfl (avAs_free rfl) (.cons rfl (avAs_free rfl) (.cons rfl (.c (.ref rfl (by decide))) (.cons rfl (.c (lstC_ren rfl (by decide))) (.cons rfl (avAs_free rfl) .nil))))) (.box (by decide) rfl (blkAs_cells (.cons (.same rfl) (.cons (.same rfl) (.cons (.same rfl) (.cons (.same rfl) (.cons (.same rfl) .nil)))))) (.row (by decide) rfl (fr_map fun _ => rfl) .nil))) (clerestoryref4_Tokened_j90_ok hzout7 h hself hK0 hr)
            · replace h := ifF hc16 h
              refine gs rfl rfl ?_
              refine gs rfl rfl ?_
              refine gs rfl rfl ?_
              refine gs rfl rfl ?_
              refine un (a1 (v := (B false)) rfl ?_)
              refine dnil ?_
              exact Sv.weak (weak_canon [0, 1] rfl (by decide) (by decide) (fun b h => absurd h (Nat.not_lt_zero _)) (.cons rfl (avAs_free rfl) (.cons rfl (avAs_free rfl) (.cons rfl (.c (.ref rfl (by decide))) (.cons rfl (.c (lstC_ren rfl (by decide))) (.cons rfl (avAs_free rfl) .nil))))) (.box (by decide) rfl (blkAs_cells (.cons (.same rfl) (.cons (.same rfl) (.cons (.same rfl) (.cons (.same rfl) (.cons (.same rfl) .nil)))))) (.row (by decide) rfl (fr_map fun _ => rfl) .nil))) (clerestoryref4_Tokened_j90_ok hzout7 h hself hK0 hr)
        · replace h := ifF hc11 h
          refine Sv.seq ?_
          refine Sv.region ?_
          refine un (a1 rfl ?_)
          refine un (ac_pure (clerestoryref4_nameByte_ok (mL := mL) (c_.toNat : Int)) rfl rfl rfl ?_)
          refine un (a1 rfl ?_)
          refine dnil ?_
          refine Sv.cond (b := (clerestoryref4_nameByte (c_.toNat : Int))) rfl (fun hc17 => ?_) (fun hc17 => ?_)
          · replace h := ifT hc17 h
            refine Sv.seq ?_
            refine Sv.block ?_
            obtain ⟨kk2, h⟩ := lim_some h
            refine Sv.weak (weak_canon [0, 1] rfl (by decide) (by decide) (fun b h => absurd h (Nat.not_lt_zero _)) (.cons rfl (avAs_free rfl) (.cons rfl (.c (.ref rfl (by decide))) (.cons rfl (avAs_free rfl) (.cons rfl (.c (lstC_ren rfl (by decide))) (.cons rfl (avAs_free rfl) .nil))))) (.box (by decide) rfl (blkAs_cells (.cons (.same rfl) (.cons (.same rfl) (.cons (.same rfl) (.cons (.same rfl) (.cons (.same rfl) .nil)))))) (.row (by decide) rfl (fr_map fun _ => rfl) .nil))) (clerestoryref4_Tokened_l27_ok hzout h ?_ hr)
            · intro out11 end_4 zout11 hzout11 h _ hw3
              refine Sv.weak hw3 ?_
              refine Sv.seq ?_
              refine Sv.drawn ?_
              refine un (a1 rfl ?_)
              refine un (a1 rfl ?_)
              refine un (a1 rfl ?_)
              obtain ⟨r_3, hx8, h⟩ := bnd h
              refine un (a1 (v := (S r_3)) (s_slStr rfl rfl rfl hx8) ?_)
              refine un (a1 (v := (.c (.ref 1 5 0 0))) rfl ?_)
              refine un (a2n (h' := upd _ 1 (some (.cells 5 [[cI 1, cI at_, cI 0, .str [], cI 0]]))) (n' := 2) rfl rfl (fun h => by cases h) ?_)
              refine un (a1 (v := (.c (.ref 1 5 0 3))) rfl ?_)
              refine un (a2n (h' := upd _ 1 (some (.cells 5 [[cI 1, cI at_, cI 0, .str r_3, cI 0]]))) (n' := 2) rfl rfl (fun h => by cases h) ?_)
              refine dnil ?_
              refine Sv.seq ?_
              refine Sv.region ?_
              refine un (a1 (v := (.c (.ref 1 5 0 3))) rfl ?_)
              refine un (a1 (v := (S r_3)) rfl ?_)
              obtain ⟨r_4, hr3, h⟩ := bnd h
              refine un (ac_pure (clerestoryref4_isWord_ok hr3) rfl rfl rfl ?_)
              refine dnil ?_
              refine Sv.cond (b := r_4) rfl (fun hc20 => ?_) (fun hc20 => ?_)
              · replace h := ifT hc20 h
                refine Sv.region ?_
                refine un (a1 (v := (.c (.ref 1 5 0 0))) rfl ?_)
                refine un (a2n (h' := upd _ 1 (some (.cells 5 [[cI 5, cI at_, cI 0, .str r_3, cI 0]]))) (n' := 2) rfl rfl (fun h => by cases h) ?_)
                refine dnil ?_
                exact Sv.weak (weak_canon [0, 1] rfl (by decide) (by decide) (fun b h => absurd h (Nat.not_lt_zero _)) (.cons rfl (avAs_free rfl) (.cons rfl (.c (.ref rfl (by decide))) (.cons rfl (.c (lstC_ren rfl (by decide))) (.cons rfl (avAs_free rfl) .nil)))) (.box (by decide) rfl (blkAs_cells (.cons (.same rfl) (.cons (.same rfl) (.cons (.same rfl) (.cons (.same rfl) (.cons (.same rfl) .nil)))))) (.row (by decide) rfl (fr_map fun _ => rfl) .nil))) (clerestoryref4_Tokened_j83_ok hzout11 h hself hK0 hr)
              · replace h := ifF hc20 h
                refine Sv.skip ?_
                exact Sv.weak (weak_canon [0, 1] rfl (by decide) (by decide) (fun b h => absurd h (Nat.not_lt_zero _)) (.cons rfl (avAs_free rfl) (.cons rfl (.c (.ref rfl (by decide))) (.cons rfl (.c (lstC_ren rfl (by decide))) (.cons rfl (avAs_free rfl) .nil)))) (.box (by decide) rfl (blkAs_cells (.cons (.same rfl) (.cons (.same rfl) (.cons (.same rfl) (.cons (.same rfl) (.cons (.same rfl) .nil)))))) (.row (by decide) rfl (fr_map fun _ => rfl) .nil))) (clerestoryref4_Tokened_j83_ok hzout11 h hself hK0 hr)
          · replace h := ifF hc17 h
            refine Sv.seq ?_
            refine Sv.region ?_
            refine un (a1 rfl ?_)
            refine un (a1 (v := (B (decide ((c_.toNat : Int) = 34)))) rfl ?_)
            refine un (a1 rfl ?_)
            refine dnil ?_
            refine Sv.cond (b := decide ((c_.toNat : Int) = 34)) rfl (fun hc21 => ?_) (fun hc21 => ?_)
            · replace h := ifT hc21 h
              refine Sv.seq ?_
              refine Sv.region ?_
              refine un (a1 (v := (.c (.ref 1 5 0 0))) rfl ?_)
              refine un (a2n (h' := upd _ 1 (some (.cells 5 [[cI 3, cI at_, cI 0, .str [], cI 0]]))) (n' := 2) rfl rfl (fun h => by cases h) ?_)
              refine dnil ?_
              refine Sv.seq ?_
              refine Sv.region ?_
              refine un (a1 rfl ?_)
              refine un (a1 rfl ?_)
              obtain ⟨r_5, hr4, h⟩ := bnd h
              refine un (ac_pure (clerestoryref4_textAt_ok hr4) rfl rfl rfl ?_)
              refine un (a1 rfl ?_)
              refine un (a1 (v := (S r_5.1)) rfl ?_)
              refine un (a1 (v := (I r_5.2)) rfl ?_)
              refine un (a1 (v := (.c (.ref 1 5 0 3))) rfl ?_)
              refine un (a2n (h' := upd _ 1 (some (.cells 5 [[cI 3, cI at_, cI 0, .str r_5.1, cI 0]]))) (n' := 2) rfl rfl (fun h => by cases h) ?_)
              refine un (a1 rfl ?_)
              refine dnil ?_
              refine Sv.seq ?_
              refine Sv.region ?_
              refine un (a1 rfl ?_)
              refine un (a1 (v := (B (decide (r_5.2 < 0)))) rfl ?_)
              refine dnil ?_
              refine Sv.cond (b := decide (r_5.2 < 0)) rfl (fun hc22 => ?_) (fun hc22 => ?_)
              · replace h := ifT hc22 h
                refine Sv.seq ?_
                refine Sv.region ?_
                refine un (a1 rfl ?_)
                refine un (a1 rfl ?_)
                refine dnil ?_
                refine Sv.ret ?_
                replace h := Option.some.inj h
                subst h
                exact hr _ ⟨_, .refl _, _, rfl, ⟨upd (fun _ => none) 0 (some (.tup [(lstV true 0 5 ([] : List TJTok).length), (I 4)])), (upd (fun _ => none) 0 (lstB true 5 (([] : List TJTok).map e_TJTok))), 1⟩, (.tup [(lstV true 0 5 ([] : List TJTok).length), (I 4)]), weak_canon2 [1000] [0] (by decide) (by decide) (fun b h => absurd h (Nat.not_lt_zero _)) (.cons (by decide) .nil) (.cons rfl (avAs_tup (.cons (.c (.same rfl)) (.cons (avAs_free rfl) .nil))) .nil) (.non (by decide) .nil), rfl, true, (fun _ => rfl), rfl, rfl, rfl⟩
              · replace h := ifF hc22 h
                refine Sv.skip ?_
                exact Sv.weak (weak_canon [0, 1] rfl (by decide) (by decide) (fun b h => absurd h (Nat.not_lt_zero _)) (.cons rfl (avAs_free rfl) (.cons rfl (.c (.ref rfl (by decide))) (.cons rfl (.c (lstC_ren rfl (by decide))) (.cons rfl (avAs_free rfl) .nil)))) (.box (by decide) rfl (blkAs_cells (.cons (.same rfl) (.cons (.same rfl) (.cons (.same rfl) (.cons (.same rfl) (.cons (.same rfl) .nil)))))) (.row (by decide) rfl (fr_map fun _ => rfl) .nil))) (clerestoryref4_Tokened_j83_ok hzout h hself hK0 hr)
            · replace h := ifF hc21 h
              refine Sv.seq ?_
              refine Sv.region ?_
              refine un (a1 rfl ?_)
              refine un (a1 rfl ?_)
              obtain ⟨r_6, hx9, h⟩ := bnd h
              refine un (a1 (v := (S r_6)) (s_slStr rfl rfl rfl hx9) ?_)
              obtain ⟨r_7, hr5, h⟩ := bnd h
              refine un (ac_pure (clerestoryref4_signAt_ok hr5) rfl rfl rfl ?_)
              refine un (a1 (v := (.c (.ref 1 5 0 0))) rfl ?_)
              refine un (a2n (h' := upd _ 1 (some (.cells 5 [[cI 4, cI at_, cI 0, .str [], cI 0]]))) (n' := 2) rfl rfl (fun h => by cases h) ?_)
              refine un (a1 (v := (.c (.ref 1 5 0 3))) rfl ?_)
              refine un (a2n (h' := upd _ 1 (some (.cells 5 [[cI 4, cI at_, cI 0, .str r_7, cI 0]]))) (n' := 2) rfl rfl (fun h => by cases h) ?_)
              refine dnil ?_
              refine Sv.seq ?_
              refine Sv.seq ?_
              refine Sv.region ?_
              refine un (a1 (v := (.c (.ref 1 5 0 3))) rfl ?_)
              refine un (a1 (v := (S r_7)) rfl ?_)
              refine un (a1 (v := (B (decide (r_7 = [])))) rfl ?_)
              refine dnil ?_
              refine Sv.cond (b := decide (r_7 = [])) rfl (fun hc23 => ?_) (fun hc23 => ?_)
              · replace h := ifT hc23 h
                refine Sv.seq ?_
                refine Sv.region ?_
                refine un (a1 rfl ?_)
                refine un (a1 rfl ?_)
                refine dnil ?_
                refine Sv.ret ?_
                replace h := Option.some.inj h
                subst h
                exact hr _ ⟨_, .refl _, _, rfl, ⟨upd (fun _ => none) 0 (some (.tup [(lstV true 0 5 ([] : List TJTok).length), (I 4)])), (upd (fun _ => none) 0 (lstB true 5 (([] : List TJTok).map e_TJTok))), 1⟩, (.tup [(lstV true 0 5 ([] : List TJTok).length), (I 4)]), weak_canon2 [1000] [0] (by decide) (by decide) (fun b h => absurd h (Nat.not_lt_zero _)) (.cons (by decide) .nil) (.cons rfl (avAs_tup (.cons (.c (.same rfl)) (.cons (avAs_free rfl) .nil))) .nil) (.non (by decide) .nil), rfl, true, (fun _ => rfl), rfl, rfl, rfl⟩
              · replace h := ifF hc23 h
                refine Sv.skip ?_
                refine Sv.region ?_
                refine un (a1 rfl ?_)
                refine un (a1 (v := (.c (.ref 1 5 0 3))) rfl ?_)
                refine un (a1 (v := (S r_7)) rfl ?_)
                refine un (a1 (v := (I (r_7.length : Int))) rfl ?_)
                refine un (a1 (v := (I (wi (at_ + (r_7.length : Int))))) rfl ?_)
                refine un (a1 rfl ?_)
                refine dnil ?_
                exact Sv.weak (weak_canon [0, 1] rfl (by decide) (by decide) (fun b h => absurd h (Nat.not_lt_zero _)) (.cons rfl (avAs_free rfl) (.cons rfl (.c (.ref rfl (by decide))) (.cons rfl (.c (lstC_ren rfl (by decide))) (.cons rfl (avAs_free rfl) .nil)))) (.box (by decide) rfl (blkAs_cells (.cons (.same rfl) (.cons (.same rfl) (.cons (.same rfl) (.cons (.same rfl) (.cons (.same rfl) .nil)))))) (.row (by decide) rfl (fr_map fun _ => rfl) .nil))) (clerestoryref4_Tokened_j83_ok hzout h hself hK0 hr)
  · replace h := ifF hc2 h
    refine Sv.exit ?_
    exact hK0 out zout hzout h _ (weak_canon [0] rfl (by decide) (by decide) (fun b h => absurd h (Nat.not_lt_zero _)) (.cons rfl (.c (lstC_ren rfl (by decide))) .nil) (.row (by decide) rfl (fr_map fun _ => rfl) .nil))
/-- clerestory/clerestoryref4.Tokened -/
noncomputable def clerestoryref4_Tokened (s_ : (List UInt8)) : Option ((List TJTok) × Int) :=
  if decide (2000 < (s_.length : Int)) then
    some (([] : List TJTok), 2)
  else
    lim fun kk3 => clerestoryref4_Tokened_l18 s_ (fun (out1 : (List TJTok)) => 
        some (out1, 0)) kk3 ([] : List TJTok) 0
theorem clerestoryref4_Tokened_ok {mL : Int} {s_ : (List UInt8)} {r : ((List TJTok) × Int)} (h : clerestoryref4_Tokened s_ = some r) : ACalls Tryd.prog (GG mL) 17 [(S s_)] (fun _ => none) 0 (clerestoryref4_Tokened_post r) := by
  refine acalls_of_sv hmix c17 (R := clerestoryref4_Tokened_post r) ?_
  unfold clerestoryref4_Tokened at h
  refine Sv.seq ?_
  refine Sv.region ?_
  refine un (a1 rfl ?_)
  refine un (a1 rfl ?_)
  refine dnil ?_
  refine Sv.seq ?_
  refine Sv.seq ?_
  refine Sv.region ?_
  refine un (a1 rfl ?_)
  refine un (a1 (v := (I (s_.length : Int))) rfl ?_)
  refine un (a1 (v := (B (decide (2000 < (s_.length : Int))))) rfl ?_)
  refine dnil ?_
  refine Sv.cond (b := decide (2000 < (s_.length : Int))) rfl (fun hc1 => ?_) (fun hc1 => ?_)
  · replace h := ifT hc1 h
    refine Sv.seq ?_
    refine Sv.region ?_
    refine un (a1 rfl ?_)
    refine un (a1 rfl ?_)
    refine dnil ?_
    refine Sv.ret ?_
    replace h := Option.some.inj h
    subst h
    exact ⟨_, .refl _, _, rfl, ⟨upd (fun _ => none) 0 (some (.tup [(lstV true 0 5 ([] : List TJTok).length), (I 2)])), (upd (fun _ => none) 0 (lstB true 5 (([] : List TJTok).map e_TJTok))), 1⟩, (.tup [(lstV true 0 5 ([] : List TJTok).length), (I 2)]), weak_canon2 [1000] [0] (by decide) (by decide) (fun b h => absurd h (Nat.not_lt_zero _)) (.cons (by decide) .nil) (.cons rfl (avAs_tup (.cons (.c (.same rfl)) (.cons (avAs_free rfl) .nil))) .nil) (.non (by decide) .nil), rfl, true, (fun _ => rfl), rfl, rfl, rfl⟩
  · replace h := ifF hc1 h
    refine Sv.skip ?_
    refine Sv.seq ?_
    refine Sv.region ?_
    refine un (a1 rfl ?_)
    refine dnil ?_
    refine Sv.seq ?_
    refine Sv.seq ?_
    refine Sv.region ?_
    refine un (a1 rfl ?_)
    refine dnil ?_
    refine Sv.block ?_
    obtain ⟨kk3, h⟩ := lim_some h
    refine Sv.weak (weak_canon [1000] rfl (by decide) (by decide) (fun b h => absurd h (Nat.not_lt_zero _)) (.cons rfl (avAs_free rfl) (.cons rfl (.c (.same rfl)) (.cons rfl (avAs_free rfl) .nil))) (.non (by decide) .nil)) (clerestoryref4_Tokened_l18_ok (fun _ => rfl) h ?_ (fun s hs => hs))
    · intro out1 zout1 hzout1 h _ hw4
      refine Sv.weak hw4 ?_
      refine Sv.seq ?_
      refine Sv.region ?_
      refine un (a1 rfl ?_)
      refine un (a1 rfl ?_)
      refine un (a1 rfl ?_)
      refine dnil ?_
      refine Sv.ret ?_
      replace h := Option.some.inj h
      subst h
      exact ⟨_, .refl _, _, rfl, ⟨upd (fun _ => none) 0 (some (.tup [(lstV zout1 0 5 out1.length), (I 0)])), (upd (fun _ => none) 0 (lstB zout1 5 (out1.map e_TJTok))), 1⟩, (.tup [(lstV zout1 0 5 out1.length), (I 0)]), weak_canon2 [0] [0] (by decide) (by decide) (fun b h => absurd h (Nat.not_lt_zero _)) (.cons (by decide) .nil) (.cons rfl (avAs_tup (.cons (.c (lstC_ren rfl (by decide))) (.cons (avAs_free rfl) .nil))) .nil) (.row (by decide) rfl (fr_map fun _ => rfl) .nil), rfl, zout1, hzout1, rfl, rfl, rfl⟩
def a18_c0 : ACode := (.seq (.region [⟨(some 14), (.bin .lss (.tmp 13) (.tmp 12)), none⟩])
 (.seq (.cond (.tmp 14) .skip (.exit 0))
 (.seq (.block 1 (.seq (.region [⟨(some 15), (.mov (.tmp 13)), none⟩, ⟨(some 5), (.mov (.tmp 15)), none⟩])
 (.seq (.drawn (.fin [(⟨(some 16), (.mov (.tmp 0)), none⟩, (0, 0)), (⟨(some 17), (.mov (.tmp 5)), none⟩, (0, 1)), (⟨(some 18), (.iaddr 5 (.tmp 16) (.tmp 17)), none⟩, (0, 2)), (⟨(some 19), (.load true 5 (.tmp 18)), none⟩, (0, 3)), (⟨(some 20), (.mov (.tmp 1)), none⟩, (0, 4)), (⟨(some 21), (.mov (.tmp 5)), none⟩, (0, 5)), (⟨(some 22), (.iaddr 5 (.tmp 20) (.tmp 21)), none⟩, (0, 6)), (⟨(some 23), (.load true 5 (.tmp 22)), none⟩, (0, 7)), (⟨(some 24), (.eqs true true [.i, .i, .i, .s, .i] (.tmp 19) (.tmp 23)), none⟩, (0, 8))]))
 (.cond (.tmp 24) (.seq (.region [⟨(some 4), (.mov (.const (.c (.val (.bool false))))), none⟩])
 .ret) .skip))))
 (.region [⟨(some 25), (.bin .add (.tmp 13) (.const (.c (.val (.int .i64 1))))), none⟩, ⟨(some 13), (.mov (.tmp 25)), none⟩]))))
def a18 : AFunc := ⟨2, [(.tmp 4)], (.seq (.region [⟨(some 4), (.mov (.const (.c (.val (.bool false))))), none⟩])
 (.seq (.seq (.region [⟨(some 6), (.mov (.tmp 0)), none⟩, ⟨(some 7), (.len (.tmp 6)), none⟩, ⟨(some 8), (.mov (.tmp 1)), none⟩, ⟨(some 9), (.len (.tmp 8)), none⟩, ⟨(some 10), (.bin .neq (.tmp 7) (.tmp 9)), none⟩])
 (.cond (.tmp 10) (.seq (.region [⟨(some 4), (.mov (.const (.c (.val (.bool false))))), none⟩])
 .ret) .skip))
 (.seq (.seq (.region [⟨(some 11), (.mov (.tmp 0)), none⟩, ⟨(some 12), (.len (.tmp 11)), none⟩, ⟨(some 13), (.mov (.const (.c (.val (.int .i64 0))))), none⟩])
 (.block 0 (.loop a18_c0)))
 (.seq (.region [⟨(some 4), (.mov (.const (.c (.val (.bool true))))), none⟩])
 .ret))))⟩
set_option maxRecDepth 100000 in
theorem c18 : compFunc Tryd.prog 18 = some a18 := by kernel_rfl
def clerestoryref4_SameToks_post (r : Bool) : AV → Heap → Nat → Prop := fun v h' n' => v = (B r) ∧ (h' = (fun _ => none)) ∧ n' = 0
noncomputable def clerestoryref4_SameToks_l0 (a_ : (List TJTok)) (b_ : (List TJTok)) (K0_ : Unit → Option Bool) : Nat → Int → Option Bool
  | 0, _ => none
  | k + 1, v13 =>
    if decide (v13 < (a_.length : Int)) then
      (at? a_ v13).bind fun x_ =>
      (at? b_ v13).bind fun x_1 =>
      letIn (!(decide (x_.Kind = x_1.Kind) && (decide (x_.From = x_1.From) && (decide (x_.To = x_1.To) && (decide (x_.Text = x_1.Text) && (decide (x_.Num = x_1.Num) && true)))))) fun v24 : Bool =>
      if v24 then
        some false
      else
        (clerestoryref4_SameToks_l0 a_ b_ K0_ k) (wi (v13 + 1))
    else
      K0_ ()
theorem clerestoryref4_SameToks_l0_ok {mL : Int} {Q : AExit → St → Prop} {a_ : (List TJTok)} {b_ : (List TJTok)} {K0_ : Unit → Option Bool} {k : Nat} {v13 : Int} {o : Bool} (h : clerestoryref4_SameToks_l0 a_ b_ K0_ k v13 = some o)
    (hK0 : ∀ (_ : Unit), K0_ () = some o → ∀ s, Weak 0 s ⟨(fun _ => none), (fun _ => none), 0⟩ → Q (.exit 0) s)
    (hr : ∀ s, Ends a18.results 0 (clerestoryref4_SameToks_post o) .ret s → Q .ret s) :
    Sv Tryd.prog (GG mL) 0 (.loop a18_c0) Q ⟨(upd (upd (upd (upd (fun _ => none) 0 (some (.c (.ro false 5 (a_.map e_TJTok))))) 1 (some (.c (.ro false 5 (b_.map e_TJTok))))) 12 (some (I (a_.length : Int)))) 13 (some (I v13))), (fun _ => none), 0⟩ := by
  refine Sv.loop (I := fun k s => ∃ (v13 : Int), clerestoryref4_SameToks_l0 a_ b_ K0_ k v13 = some o ∧ s = ⟨(upd (upd (upd (upd (fun _ => none) 0 (some (.c (.ro false 5 (a_.map e_TJTok))))) 1 (some (.c (.ro false 5 (b_.map e_TJTok))))) 12 (some (I (a_.length : Int)))) 13 (some (I v13))), (fun _ => none), 0⟩) (fun k s hI => ?_) ⟨v13, h, rfl⟩
  clear h
  clear v13
  obtain ⟨v13, h, rfl⟩ := hI
  cases k with
  | zero => cases h
  | succ k =>
  rw [clerestoryref4_SameToks_l0] at h
  have hself : ∀ (v13 : Int), (clerestoryref4_SameToks_l0 a_ b_ K0_ k) v13 = some o → ∀ s, Weak 0 s ⟨(upd (upd (upd (upd (fun _ => none) 0 (some (.c (.ro false 5 (a_.map e_TJTok))))) 1 (some (.c (.ro false 5 (b_.map e_TJTok))))) 12 (some (I (a_.length : Int)))) 13 (some (I v13))), (fun _ => none), 0⟩ → (AThen (fun s' => ∃ s'' k', Weak 0 s' s'' ∧ k' < k + 1 ∧ (fun k s => ∃ (v13 : Int), clerestoryref4_SameToks_l0 a_ b_ K0_ k v13 = some o ∧ s = ⟨(upd (upd (upd (upd (fun _ => none) 0 (some (.c (.ro false 5 (a_.map e_TJTok))))) 1 (some (.c (.ro false 5 (b_.map e_TJTok))))) 12 (some (I (a_.length : Int)))) 13 (some (I v13))), (fun _ => none), 0⟩) k' s'') Q) .normal s := fun v13 h s hw => ⟨_, k, hw, Nat.lt_succ_self k, v13, h, rfl⟩
  refine Sv.seq ?_
  refine Sv.region ?_
  refine un (a1 (v := (B (decide (v13 < (a_.length : Int))))) rfl ?_)
  refine dnil ?_
  refine Sv.seq ?_
  refine Sv.cond (b := decide (v13 < (a_.length : Int))) rfl (fun hc2 => ?_) (fun hc2 => ?_)
  · replace h := ifT hc2 h
    refine Sv.skip ?_
    refine Sv.seq ?_
    refine Sv.block ?_
    refine Sv.seq ?_
    refine Sv.region ?_
    refine un (a1 rfl ?_)
    refine un (a1 rfl ?_)
    refine dnil ?_
    refine Sv.seq ?_
    refine Sv.drawn ?_
    refine un (a1 rfl ?_)
    refine un (a1 rfl ?_)
    obtain ⟨x_, hx1, h⟩ := bnd h
    refine un (a1 (v := (.c (.rop [cI x_.Kind, cI x_.From, cI x_.To, .str x_.Text, cI x_.Num]))) (s_iaddr (e := e_TJTok) (xs := a_) rfl rfl hx1) ?_)
    refine un (a1 (v := (.agg [cI x_.Kind, cI x_.From, cI x_.To, .str x_.Text, cI x_.Num])) rfl ?_)
    refine un (a1 rfl ?_)
    refine un (a1 rfl ?_)
    obtain ⟨x_1, hx2, h⟩ := bnd h
    refine un (a1 (v := (.c (.rop [cI x_1.Kind, cI x_1.From, cI x_1.To, .str x_1.Text, cI x_1.Num]))) (s_iaddr (e := e_TJTok) (xs := b_) rfl rfl hx2) ?_)
    refine un (a1 (v := (.agg [cI x_1.Kind, cI x_1.From, cI x_1.To, .str x_1.Text, cI x_1.Num])) rfl ?_)
    obtain ⟨v24, hv24⟩ : ∃ v24 : Bool, v24 = (!(decide (x_.Kind = x_1.Kind) && (decide (x_.From = x_1.From) && (decide (x_.To = x_1.To) && (decide (x_.Text = x_1.Text) && (decide (x_.Num = x_1.Num) && true)))))) := ⟨_, rfl⟩
    replace h := letAt hv24 h
    refine un (a1 (v := (B v24)) (by rw [hv24]; rfl) ?_)
    clear hv24
    refine dnil ?_
    refine Sv.cond (b := v24) rfl (fun hc3 => ?_) (fun hc3 => ?_)
    · replace h := ifT hc3 h
      refine Sv.seq ?_
      refine Sv.region ?_
      refine un (a1 rfl ?_)
      refine dnil ?_
      refine Sv.ret ?_
      replace h := Option.some.inj h
      subst h
      exact hr _ ⟨_, .refl _, _, rfl, ⟨upd (fun _ => none) 0 (some (B false)), (fun _ => none), 0⟩, (B false), weak_canon [] rfl List.nodup_nil (Nat.le_refl _) (fun b h => absurd h (Nat.not_lt_zero _)) (.cons rfl (avAs_free rfl) .nil) .nil, rfl, rfl, rfl, rfl⟩
    · replace h := ifF hc3 h
      refine Sv.skip ?_
      refine Sv.region ?_
      refine un (a1 (v := (I (wi (v13 + 1)))) rfl ?_)
      refine un (a1 rfl ?_)
      refine dnil ?_
      exact hself (wi (v13 + 1)) h _ (weak_canon [] rfl (by decide) (by decide) (fun b h => absurd h (Nat.not_lt_zero _)) (.cons rfl (avAs_free rfl) (.cons rfl (avAs_free rfl) (.cons rfl (avAs_free rfl) (.cons rfl (avAs_free rfl) .nil)))) .nil)
  · replace h := ifF hc2 h
    refine Sv.exit ?_
    exact hK0 () h _ (weak_canon [] rfl (by decide) (by decide) (fun b h => absurd h (Nat.not_lt_zero _)) .nil .nil)
/-- clerestory/clerestoryref4.SameToks -/
noncomputable def clerestoryref4_SameToks (a_ : (List TJTok)) (b_ : (List TJTok)) : Option Bool :=
  if (!decide ((a_.length : Int) = (b_.length : Int))) then
    some false
  else
    lim fun kk => clerestoryref4_SameToks_l0 a_ b_ (fun (_ : Unit) => 
        some true) kk 0
theorem clerestoryref4_SameToks_ok {mL : Int} {a_ : (List TJTok)} {b_ : (List TJTok)} {r : Bool} (h : clerestoryref4_SameToks a_ b_ = some r) : CPure Tryd.prog (GG mL) 18 [(.c (.ro false 5 (a_.map e_TJTok))), (.c (.ro false 5 (b_.map e_TJTok)))] (B r) := by
  refine acalls_of_sv hmix c18 (R := clerestoryref4_SameToks_post r) ?_
  unfold clerestoryref4_SameToks at h
  refine Sv.seq ?_
  refine Sv.region ?_
  refine un (a1 rfl ?_)
  refine dnil ?_
  refine Sv.seq ?_
  refine Sv.seq ?_
  refine Sv.region ?_
  refine un (a1 rfl ?_)
  refine un (a1 (v := (I (a_.length : Int))) (s_len (e := e_TJTok) (xs := a_) rfl) ?_)
  refine un (a1 rfl ?_)
  refine un (a1 (v := (I (b_.length : Int))) (s_len (e := e_TJTok) (xs := b_) rfl) ?_)
  refine un (a1 (v := (B (!decide ((a_.length : Int) = (b_.length : Int))))) rfl ?_)
  refine dnil ?_
  refine Sv.cond (b := (!decide ((a_.length : Int) = (b_.length : Int)))) rfl (fun hc1 => ?_) (fun hc1 => ?_)
  · replace h := ifT hc1 h
    refine Sv.seq ?_
    refine Sv.region ?_
    refine un (a1 rfl ?_)
    refine dnil ?_
    refine Sv.ret ?_
    replace h := Option.some.inj h
    subst h
    exact ⟨_, .refl _, _, rfl, ⟨upd (fun _ => none) 0 (some (B false)), (fun _ => none), 0⟩, (B false), weak_canon [] rfl List.nodup_nil (Nat.le_refl _) (fun b h => absurd h (Nat.not_lt_zero _)) (.cons rfl (avAs_free rfl) .nil) .nil, rfl, rfl, rfl, rfl⟩
  · replace h := ifF hc1 h
    refine Sv.skip ?_
    refine Sv.seq ?_
    refine Sv.seq ?_
    refine Sv.region ?_
    refine un (a1 rfl ?_)
    refine un (a1 (v := (I (a_.length : Int))) (s_len (e := e_TJTok) (xs := a_) rfl) ?_)
    refine un (a1 rfl ?_)
    refine dnil ?_
    refine Sv.block ?_
    obtain ⟨kk, h⟩ := lim_some h
    refine Sv.weak (weak_canon [] rfl (by decide) (by decide) (fun b h => absurd h (Nat.not_lt_zero _)) (.cons rfl (avAs_free rfl) (.cons rfl (avAs_free rfl) (.cons rfl (avAs_free rfl) (.cons rfl (avAs_free rfl) .nil)))) .nil) (clerestoryref4_SameToks_l0_ok h ?_ (fun s hs => hs))
    · intro _ h _ hw1
      refine Sv.weak hw1 ?_
      refine Sv.seq ?_
      refine Sv.region ?_
      refine un (a1 rfl ?_)
      refine dnil ?_
      refine Sv.ret ?_
      replace h := Option.some.inj h
      subst h
      exact ⟨_, .refl _, _, rfl, ⟨upd (fun _ => none) 0 (some (B true)), (fun _ => none), 0⟩, (B true), weak_canon [] rfl List.nodup_nil (Nat.le_refl _) (fun b h => absurd h (Nat.not_lt_zero _)) (.cons rfl (avAs_free rfl) .nil) .nil, rfl, rfl, rfl, rfl⟩
noncomputable abbrev strings_Builder_WriteByte (l : List UInt8) (x0 : Int) : Option (List UInt8) := bWriteByte? l x0
/-- (*strings.Builder).WriteByte, by my own walk of it -/
theorem strings_Builder_WriteByte_ok {mL : Int} {z : Bool} {l : List UInt8} {x0 : Int} {r : List UInt8} (hz : z = true → l = []) (h : strings_Builder_WriteByte l x0 = some r) : ACalls Tryd.prog (GG mL) 43 [.c (.ref 0 2 0 0), (.c (.val (.int .u8 x0)))] (bldH 99 5 z l) 2 (bPost 99 5 (.c (.val .nilIface)) r) := bWriteByte_ok blays b167 hz h
noncomputable abbrev strings_Builder_WriteString (l : List UInt8) (x0 : (List UInt8)) : Option (List UInt8) := bWriteString? l x0
/-- (*strings.Builder).WriteString, by my own walk of it -/
theorem strings_Builder_WriteString_ok {mL : Int} {z : Bool} {l : List UInt8} {x0 : (List UInt8)} {r : List UInt8} (hz : z = true → l = []) (h : strings_Builder_WriteString l x0 = some r) : ACalls Tryd.prog (GG mL) 44 [.c (.ref 0 2 0 0), (S x0)] (bldH 99 5 z l) 2 (bPost 99 5 (.tup [.c (.val (.int .i64 (x0.length : Int))), .c (.val .nilIface)]) r) := bWriteString_ok blays b166 hz h
/-- (*strings.Builder).String, by my own walk of it -/
theorem strings_Builder_String_ok {mL : Int} {z : Bool} {l : List UInt8} (hz : z = true → l = []) : ACalls Tryd.prog (GG mL) 46 [.c (.ref 0 2 0 0)] (bldH 99 5 z l) 2 (fun v h' n' => v = .c (.str l) ∧ h' = (fun _ => none) ∧ n' = 2) := bString_ok bL bX hz
def a19_c0 : ACode := (.region [⟨(some 62), (.bin .add (.tmp 10) (.const (.c (.val (.int .i64 1))))), none⟩, ⟨(some 10), (.mov (.tmp 62)), none⟩])
def a19_c1 : ACode := (.seq (.region [⟨(some 11), (.bin .lss (.tmp 10) (.tmp 9)), none⟩])
 (.seq (.cond (.tmp 11) .skip (.exit 0))
 (.seq (.block 1 (.seq (.region [⟨(some 12), (.mov (.tmp 10)), none⟩, ⟨(some 4), (.mov (.tmp 12)), none⟩])
 (.seq (.region [⟨(some 13), (.mov (.tmp 0)), none⟩, ⟨(some 14), (.mov (.tmp 4)), none⟩, ⟨(some 15), (.idxS (.tmp 13) (.tmp 14)), none⟩, ⟨(some 5), (.mov (.tmp 15)), none⟩])
 (.block 2 (.seq (.region [⟨(some 19), (.mov (.tmp 5)), none⟩, ⟨(some 20), (.bin .eql (.tmp 19) (.const (.c (.val (.int .u8 34))))), none⟩, ⟨(some 21), (.mov (.tmp 20)), none⟩, ⟨(some 22), (.mov (.tmp 5)), (some (21, false))⟩, ⟨(some 23), (.bin .eql (.tmp 22) (.const (.c (.val (.int .u8 92))))), (some (21, false))⟩, ⟨(some 24), (.pick (.tmp 21) (.const (.c (.val (.bool true)))) (.tmp 23)), none⟩, ⟨(some 18), (.mov (.tmp 24)), none⟩])
 (.cond (.tmp 18) (.region [⟨(some 25), (.mov (.tmp 5)), none⟩, ⟨(some 26), (.bslice 1 [(.val (.int .u8 0))] 1 [(0, (.tmp 25))]), none⟩, ⟨(some 27), (.ofBytes (.tmp 26)), none⟩, ⟨(some 28), (.bin .add (.const (.c (.str [92]))) (.tmp 27)), none⟩, ⟨(some 29), (.call 44 [(.tmp 3), (.tmp 28)]), none⟩]) (.seq (.region [⟨(some 31), (.mov (.tmp 5)), none⟩, ⟨(some 32), (.bin .eql (.tmp 31) (.const (.c (.val (.int .u8 10))))), none⟩, ⟨(some 30), (.mov (.tmp 32)), none⟩])
 (.cond (.tmp 30) (.region [⟨(some 33), (.call 44 [(.tmp 3), (.const (.c (.str [92, 110])))]), none⟩]) (.seq (.region [⟨(some 35), (.mov (.tmp 5)), none⟩, ⟨(some 36), (.bin .eql (.tmp 35) (.const (.c (.val (.int .u8 9))))), none⟩, ⟨(some 34), (.mov (.tmp 36)), none⟩])
 (.cond (.tmp 34) (.region [⟨(some 37), (.call 44 [(.tmp 3), (.const (.c (.str [92, 116])))]), none⟩]) (.seq (.region [⟨(some 39), (.mov (.tmp 5)), none⟩, ⟨(some 40), (.bin .lss (.tmp 39) (.const (.c (.val (.int .u8 32))))), none⟩, ⟨(some 41), (.mov (.tmp 40)), none⟩, ⟨(some 42), (.mov (.tmp 5)), (some (41, false))⟩, ⟨(some 43), (.bin .gtr (.tmp 42) (.const (.c (.val (.int .u8 126))))), (some (41, false))⟩, ⟨(some 44), (.pick (.tmp 41) (.const (.c (.val (.bool true)))) (.tmp 43)), none⟩, ⟨(some 38), (.mov (.tmp 44)), none⟩])
 (.cond (.tmp 38) (.seq (.region [⟨(some 6), (.mov (.const (.c (.str [48, 49, 50, 51, 52, 53, 54, 55, 56, 57, 97, 98, 99, 100, 101, 102])))), none⟩])
 (.drawn (.fin [(⟨(some 45), (.mov (.tmp 6)), none⟩, (0, 0)), (⟨(some 46), (.mov (.tmp 5)), none⟩, (0, 1)), (⟨(some 47), (.bin .shr (.tmp 46) (.const (.c (.val (.int .u64 4))))), none⟩, (0, 2)), (⟨(some 48), (.mov (.tmp 5)), none⟩, (0, 3)), (⟨(some 49), (.bin .shr (.tmp 48) (.const (.c (.val (.int .u64 4))))), none⟩, (0, 4)), (⟨(some 50), (.bin .add (.tmp 49) (.const (.c (.val (.int .u8 1))))), none⟩, (0, 5)), (⟨(some 51), (.slStr (.tmp 45) (some (.tmp 47)) (some (.tmp 50))), none⟩, (0, 6)), (⟨(some 52), (.bin .add (.const (.c (.str [92, 120]))) (.tmp 51)), none⟩, (0, 7)), (⟨(some 53), (.mov (.tmp 6)), none⟩, (0, 8)), (⟨(some 54), (.mov (.tmp 5)), none⟩, (0, 9)), (⟨(some 55), (.bin .and (.tmp 54) (.const (.c (.val (.int .u8 15))))), none⟩, (0, 10)), (⟨(some 56), (.mov (.tmp 5)), none⟩, (0, 11)), (⟨(some 57), (.bin .and (.tmp 56) (.const (.c (.val (.int .u8 15))))), none⟩, (0, 12)), (⟨(some 58), (.bin .add (.tmp 57) (.const (.c (.val (.int .u8 1))))), none⟩, (0, 13)), (⟨(some 59), (.slStr (.tmp 53) (some (.tmp 55)) (some (.tmp 58))), none⟩, (0, 14)), (⟨(some 60), (.bin .add (.tmp 52) (.tmp 59)), none⟩, (0, 15)), (⟨(some 61), (.call 44 [(.tmp 3), (.tmp 60)]), none⟩, (2, 16))]))) (.region [⟨(some 16), (.mov (.tmp 5)), none⟩, ⟨(some 17), (.call 43 [(.tmp 3), (.tmp 16)]), none⟩])))))))))))))
 a19_c0)))
def a19 : AFunc := ⟨1, [(.tmp 2)], (.seq (.region [⟨(some 2), (.mov (.const (.c (.str [])))), none⟩])
 (.seq (.region [⟨(some 3), (.boxB 99), none⟩])
 (.seq (.region [⟨(some 7), (.call 43 [(.tmp 3), (.const (.c (.val (.int .u8 34))))]), none⟩])
 (.seq (.seq (.region [⟨(some 8), (.mov (.tmp 0)), none⟩, ⟨(some 9), (.lenS (.tmp 8)), none⟩, ⟨(some 10), (.mov (.const (.c (.val (.int .i64 0))))), none⟩])
 (.block 0 (.loop a19_c1)))
 (.seq (.region [⟨(some 63), (.call 43 [(.tmp 3), (.const (.c (.val (.int .u8 34))))]), none⟩])
 (.seq (.region [⟨(some 64), (.call 46 [(.tmp 3)]), none⟩, ⟨(some 2), (.mov (.tmp 64)), none⟩])
 .ret))))))⟩
set_option maxRecDepth 100000 in
theorem c19 : compFunc Tryd.prog 19 = some a19 := by kernel_rfl
def jlex_Quote_post (r : (List UInt8)) : AV → Heap → Nat → Prop := fun v h' n' => v = (S r) ∧ (h' = (fun _ => none)) ∧ n' = 0
noncomputable def jlex_Quote_j3 (v10 : Int) (s_ : (List UInt8)) (self : (List UInt8) → Int → Option (List UInt8)) (K0_ : (List UInt8) → Option (List UInt8)) (out2 : (List UInt8)) : Option (List UInt8) :=
  self out2 (wi (v10 + 1))
theorem jlex_Quote_j3_ok {mL : Int} {Q : AExit → St → Prop} {v10 : Int} {s_ : (List UInt8)} {self : (List UInt8) → Int → Option (List UInt8)} {K0_ : (List UInt8) → Option (List UInt8)} {out2 : (List UInt8)} {zout2 : Bool} (hzout2 : zout2 = true → out2 = []) {o : (List UInt8)} (h : jlex_Quote_j3 v10 s_ self K0_ out2 = some o)
    (hself : ∀ (out : (List UInt8)) (v10 : Int) (zout : Bool) (_ : zout = true → out = []), self out v10 = some o → ∀ s, Weak 0 s ⟨(upd (upd (upd (upd (fun _ => none) 0 (some (S s_))) 3 (some (.c (.ref 0 2 0 0)))) 9 (some (I (s_.length : Int)))) 10 (some (I v10))), (upd (upd (fun _ => none) 0 (some (.bld 99 zout 1 out.length))) 1 (bufB zout 5 out)), 2⟩ → (Q) .normal s)
    (hK0 : ∀ (out1 : (List UInt8)) (zout1 : Bool) (_ : zout1 = true → out1 = []), K0_ out1 = some o → ∀ s, Weak 0 s ⟨(upd (fun _ => none) 3 (some (.c (.ref 0 2 0 0)))), (upd (upd (fun _ => none) 0 (some (.bld 99 zout1 1 out1.length))) 1 (bufB zout1 5 out1)), 2⟩ → Q (.exit 0) s)
    (hr : ∀ s, Ends a19.results 0 (jlex_Quote_post o) .ret s → Q .ret s) :
    Sv Tryd.prog (GG mL) 0 a19_c0 Q ⟨(upd (upd (upd (upd (fun _ => none) 0 (some (S s_))) 3 (some (.c (.ref 0 2 0 0)))) 9 (some (I (s_.length : Int)))) 10 (some (I v10))), (upd (upd (fun _ => none) 0 (some (.bld 99 zout2 1 out2.length))) 1 (bufB zout2 5 out2)), 2⟩ := by
  unfold jlex_Quote_j3 at h
  refine Sv.region ?_
  refine un (a1 (v := (I (wi (v10 + 1)))) rfl ?_)
  refine un (a1 rfl ?_)
  refine dnil ?_
  exact hself out2 (wi (v10 + 1)) zout2 hzout2 h _ (weak_canon [0, 1] rfl (by decide) (by decide) (fun b h => absurd h (Nat.not_lt_zero _)) (.cons rfl (avAs_free rfl) (.cons rfl (avAs_free rfl) (.cons rfl (.c (.ref rfl (by decide))) (.cons rfl (avAs_free rfl) .nil)))) (.buf (by decide) rfl (.box (by decide) rfl (.bld rfl (by decide)) .nil)))
noncomputable def jlex_Quote_l0 (s_ : (List UInt8)) (K0_ : (List UInt8) → Option (List UInt8)) : Nat → (List UInt8) → Int → Option (List UInt8)
  | 0, _, _ => none
  | k + 1, out, v10 =>
    if decide (v10 < (s_.length : Int)) then
      (at? s_ v10).bind fun c_ =>
      if ((decide ((c_.toNat : Int) = 34)) || (decide ((c_.toNat : Int) = 92))) then
        (cat? [92] (byts [(c_.toNat : Int)])).bind fun r_1 =>
        (strings_Builder_WriteString out r_1).bind fun r_2 =>
        jlex_Quote_j3 v10 s_ (jlex_Quote_l0 s_ K0_ k) K0_ r_2
      else
        if decide ((c_.toNat : Int) = 10) then
          (strings_Builder_WriteString out [92, 110]).bind fun r_3 =>
          jlex_Quote_j3 v10 s_ (jlex_Quote_l0 s_ K0_ k) K0_ r_3
        else
          if decide ((c_.toNat : Int) = 9) then
            (strings_Builder_WriteString out [92, 116]).bind fun r_4 =>
            jlex_Quote_j3 v10 s_ (jlex_Quote_l0 s_ K0_ k) K0_ r_4
          else
            if ((decide ((c_.toNat : Int) < 32)) || (decide (126 < (c_.toNat : Int)))) then
              (sub? [48, 49, 50, 51, 52, 53, 54, 55, 56, 57, 97, 98, 99, 100, 101, 102] (shr .u8 (c_.toNat : Int) 4) (wr .u8 ((shr .u8 (c_.toNat : Int) 4) + 1))).bind fun r_5 =>
              (cat? [92, 120] r_5).bind fun r_6 =>
              (sub? [48, 49, 50, 51, 52, 53, 54, 55, 56, 57, 97, 98, 99, 100, 101, 102] (bitsV .and .u8 (c_.toNat : Int) 15) (wr .u8 ((bitsV .and .u8 (c_.toNat : Int) 15) + 1))).bind fun r_7 =>
              (cat? r_6 r_7).bind fun r_8 =>
              (strings_Builder_WriteString out r_8).bind fun r_9 =>
              jlex_Quote_j3 v10 s_ (jlex_Quote_l0 s_ K0_ k) K0_ r_9
            else
              (strings_Builder_WriteByte out (c_.toNat : Int)).bind fun r_10 =>
              jlex_Quote_j3 v10 s_ (jlex_Quote_l0 s_ K0_ k) K0_ r_10
    else
      K0_ out
theorem jlex_Quote_l0_ok {mL : Int} {Q : AExit → St → Prop} {s_ : (List UInt8)} {K0_ : (List UInt8) → Option (List UInt8)} {k : Nat} {out : (List UInt8)} {v10 : Int} {zout : Bool} (hzout : zout = true → out = []) {o : (List UInt8)} (h : jlex_Quote_l0 s_ K0_ k out v10 = some o)
    (hK0 : ∀ (out1 : (List UInt8)) (zout1 : Bool) (_ : zout1 = true → out1 = []), K0_ out1 = some o → ∀ s, Weak 0 s ⟨(upd (fun _ => none) 3 (some (.c (.ref 0 2 0 0)))), (upd (upd (fun _ => none) 0 (some (.bld 99 zout1 1 out1.length))) 1 (bufB zout1 5 out1)), 2⟩ → Q (.exit 0) s)
    (hr : ∀ s, Ends a19.results 0 (jlex_Quote_post o) .ret s → Q .ret s) :
    Sv Tryd.prog (GG mL) 0 (.loop a19_c1) Q ⟨(upd (upd (upd (upd (fun _ => none) 0 (some (S s_))) 3 (some (.c (.ref 0 2 0 0)))) 9 (some (I (s_.length : Int)))) 10 (some (I v10))), (upd (upd (fun _ => none) 0 (some (.bld 99 zout 1 out.length))) 1 (bufB zout 5 out)), 2⟩ := by
  refine Sv.loop (I := fun k s => ∃ (out : (List UInt8)), ∃ (v10 : Int), ∃ (zout : Bool), (zout = true → out = []) ∧ jlex_Quote_l0 s_ K0_ k out v10 = some o ∧ s = ⟨(upd (upd (upd (upd (fun _ => none) 0 (some (S s_))) 3 (some (.c (.ref 0 2 0 0)))) 9 (some (I (s_.length : Int)))) 10 (some (I v10))), (upd (upd (fun _ => none) 0 (some (.bld 99 zout 1 out.length))) 1 (bufB zout 5 out)), 2⟩) (fun k s hI => ?_) ⟨out, v10, zout, hzout, h, rfl⟩
  clear h
  clear hzout zout v10 out
  obtain ⟨out, v10, zout, hzout, h, rfl⟩ := hI
  cases k with
  | zero => cases h
  | succ k =>
  rw [jlex_Quote_l0] at h
  have hself : ∀ (out : (List UInt8)) (v10 : Int) (zout : Bool) (_ : zout = true → out = []), (jlex_Quote_l0 s_ K0_ k) out v10 = some o → ∀ s, Weak 0 s ⟨(upd (upd (upd (upd (fun _ => none) 0 (some (S s_))) 3 (some (.c (.ref 0 2 0 0)))) 9 (some (I (s_.length : Int)))) 10 (some (I v10))), (upd (upd (fun _ => none) 0 (some (.bld 99 zout 1 out.length))) 1 (bufB zout 5 out)), 2⟩ → (AThen (fun s' => ∃ s'' k', Weak 0 s' s'' ∧ k' < k + 1 ∧ (fun k s => ∃ (out : (List UInt8)), ∃ (v10 : Int), ∃ (zout : Bool), (zout = true → out = []) ∧ jlex_Quote_l0 s_ K0_ k out v10 = some o ∧ s = ⟨(upd (upd (upd (upd (fun _ => none) 0 (some (S s_))) 3 (some (.c (.ref 0 2 0 0)))) 9 (some (I (s_.length : Int)))) 10 (some (I v10))), (upd (upd (fun _ => none) 0 (some (.bld 99 zout 1 out.length))) 1 (bufB zout 5 out)), 2⟩) k' s'') Q) .normal s := fun out v10 zout hzout h s hw => ⟨_, k, hw, Nat.lt_succ_self k, out, v10, zout, hzout, h, rfl⟩
  refine Sv.seq ?_
  refine Sv.region ?_
  refine un (a1 (v := (B (decide (v10 < (s_.length : Int))))) rfl ?_)
  refine dnil ?_
  refine Sv.seq ?_
  refine Sv.cond (b := decide (v10 < (s_.length : Int))) rfl (fun hc1 => ?_) (fun hc1 => ?_)
  · replace h := ifT hc1 h
    refine Sv.skip ?_
    refine Sv.seq ?_
    refine Sv.block ?_
    refine Sv.seq ?_
    refine Sv.region ?_
    refine un (a1 rfl ?_)
    refine un (a1 rfl ?_)
    refine dnil ?_
    refine Sv.seq ?_
    refine Sv.region ?_
    refine un (a1 rfl ?_)
    refine un (a1 rfl ?_)
    obtain ⟨c_, hx1, h⟩ := bnd h
    refine un (a1 (v := (.c (.val (.int .u8 (c_.toNat : Int))))) (s_idxS rfl rfl hx1) ?_)
    refine un (a1 rfl ?_)
    refine dnil ?_
    refine Sv.block ?_
    refine Sv.seq ?_
    refine Sv.region ?_
    refine un (a1 rfl ?_)
    refine un (a1 (v := (B (decide ((c_.toNat : Int) = 34)))) rfl ?_)
    refine un (a1 rfl ?_)
    refine gjoin 3 (d := 24) (v := (B ((decide ((c_.toNat : Int) = 34)) || (decide ((c_.toNat : Int) = 92))))) (fun X hX => ?_) ?_
    · refine split2 (fun hc2 => ?_) (fun hc2 => ?_)
      · refine gs rfl rfl ?_
        refine gs rfl rfl ?_
        refine un (a1 (v := (B true)) rfl ?_)
        refine dnil ?_
        exact hX _ (.putEq (by rw [hc2]; rfl) (.skip _ _ (.skip _ _ (.putEq (by rw [hc2]) (.refl _)) rfl) rfl))
      · refine gt rfl (a1 rfl ?_)
        refine gt rfl (a1 (v := (B (decide ((c_.toNat : Int) = 92)))) rfl ?_)
        refine un (a1 (v := (B (decide ((c_.toNat : Int) = 92)))) rfl ?_)
        refine dnil ?_
        exact hX _ (.putEq (by rw [hc2]; rfl) (.skip _ _ (.skip _ _ (.putEq (by rw [hc2]) (.refl _)) rfl) rfl))
    refine un (a1 rfl ?_)
    refine dnil ?_
    refine Sv.cond (b := ((decide ((c_.toNat : Int) = 34)) || (decide ((c_.toNat : Int) = 92)))) rfl (fun hc3 => ?_) (fun hc3 => ?_)
    · replace h := ifT hc3 h
      refine Sv.region ?_
      refine un (a1 rfl ?_)
      refine un (a2v (v := (lstV false 2 1 [(c_.toNat : Int)].length)) (h' := upd _ 2 (lstB false 1 ([(c_.toNat : Int)].map (eK .u8)))) (n' := 3) rfl rfl (fun h => by cases h) ?_)
      refine un (a1 (v := (S (byts [(c_.toNat : Int)]))) (s_ofBytes (xs := [(c_.toNat : Int)]) rfl (slc_lst rfl (List.length_map _).symm (map_nil_of (fun h => by cases h)))) ?_)
      obtain ⟨r_1, hx2, h⟩ := bnd h
      refine un (a1 (v := (S r_1)) (s_cat rfl rfl hx2) ?_)
      obtain ⟨r_2, hr2, h⟩ := bnd h
      refine un (ac_gen (bs := [0, 1]) («as» := [(.c (.ref 0 2 0 0)), (S r_1)]) (h2 := _) (h1 := (upd (upd (fun _ => none) 0 (some (.bld 99 zout 1 out.length))) 1 (bufB zout 5 out))) (strings_Builder_WriteString_ok (z := zout) (l := out) hzout hr2) rfl (.cons (.c (.ref rfl (by decide))) (.cons (avAs_free rfl) .nil)) (hsub_refl _) (.cons rfl (.cons rfl (.nil _))) (fun h => by cases h) (by decide) (by decide) (.cons (.c (.ref rfl (by decide))) (.cons (avAs_free rfl) .nil)) (.buf (by decide) rfl (.box (by decide) rfl (.bld rfl (by decide)) .nil)) ?_)
      rintro _ _ _ hn ⟨z_1, hz_1, rfl, rfl, rfl⟩
      refine ⟨.inl rfl, (upd (upd (rem [0, 1] _) 0 (some (.bld 99 z_1 3 r_2.length))) 3 (bufB z_1 5 r_2)), fun hbd => (m3_cons (m3_buf rfl) (m3_cons (m3_box rfl rfl) (m3_rem (in_cons (by decide) (in_cons (by decide) (in_nil _))) (.cons (by decide) (.cons (by decide) .nil)) hbd))), (.tup [(I (r_1.length : Int)), (.c (.val .nilIface))]), 4, (by cases z_1 <;> rfl), rfl, ?_⟩
      refine dnil ?_
      exact Sv.weak (weak_canon [0, 3] rfl (by decide) (by decide) (fun b h => absurd h (Nat.not_lt_zero _)) (.cons rfl (avAs_free rfl) (.cons rfl (avAs_free rfl) (.cons rfl (.c (.ref rfl (by decide))) (.cons rfl (avAs_free rfl) .nil)))) (.buf (by decide) rfl (.box (by decide) rfl (.bld rfl (by decide)) .nil))) (jlex_Quote_j3_ok hz_1 h hself hK0 hr)
    · replace h := ifF hc3 h
      refine Sv.seq ?_
      refine Sv.region ?_
      refine un (a1 rfl ?_)
      refine un (a1 (v := (B (decide ((c_.toNat : Int) = 10)))) rfl ?_)
      refine un (a1 rfl ?_)
      refine dnil ?_
      refine Sv.cond (b := decide ((c_.toNat : Int) = 10)) rfl (fun hc4 => ?_) (fun hc4 => ?_)
      · replace h := ifT hc4 h
        refine Sv.region ?_
        obtain ⟨r_3, hr3, h⟩ := bnd h
        refine un (ac_gen (bs := [0, 1]) («as» := [(.c (.ref 0 2 0 0)), (S [92, 110])]) (h2 := _) (h1 := (upd (upd (fun _ => none) 0 (some (.bld 99 zout 1 out.length))) 1 (bufB zout 5 out))) (strings_Builder_WriteString_ok (z := zout) (l := out) hzout hr3) rfl (.cons (.c (.ref rfl (by decide))) (.cons (avAs_free rfl) .nil)) (hsub_refl _) (.cons rfl (.cons rfl (.nil _))) (fun h => by cases h) (by decide) (by decide) (.cons (.c (.ref rfl (by decide))) (.cons (avAs_free rfl) .nil)) (.buf (by decide) rfl (.box (by decide) rfl (.bld rfl (by decide)) .nil)) ?_)
        rintro _ _ _ hn ⟨z_2, hz_2, rfl, rfl, rfl⟩
        refine ⟨.inl rfl, (upd (upd (rem [0, 1] _) 0 (some (.bld 99 z_2 2 r_3.length))) 2 (bufB z_2 5 r_3)), fun hbd => (m3_cons (m3_buf rfl) (m3_cons (m3_box rfl rfl) (m3_rem (in_cons (by decide) (in_cons (by decide) (in_nil _))) (.cons (by decide) (.cons (by decide) .nil)) hbd))), (.tup [(I (([92, 110] : List UInt8).length : Int)), (.c (.val .nilIface))]), 3, (by cases z_2 <;> rfl), rfl, ?_⟩
        refine dnil ?_
        exact Sv.weak (weak_canon [0, 2] rfl (by decide) (by decide) (fun b h => absurd h (Nat.not_lt_zero _)) (.cons rfl (avAs_free rfl) (.cons rfl (avAs_free rfl) (.cons rfl (.c (.ref rfl (by decide))) (.cons rfl (avAs_free rfl) .nil)))) (.buf (by decide) rfl (.box (by decide) rfl (.bld rfl (by decide)) .nil))) (jlex_Quote_j3_ok hz_2 h hself hK0 hr)
      · replace h := ifF hc4 h
        refine Sv.seq ?_
        refine Sv.region ?_
        refine un (a1 rfl ?_)
        refine un (a1 (v := (B (decide ((c_.toNat : Int) = 9)))) rfl ?_)
        refine un (a1 rfl ?_)
        refine dnil ?_
        refine Sv.cond (b := decide ((c_.toNat : Int) = 9)) rfl (fun hc5 => ?_) (fun hc5 => ?_)
        · replace h := ifT hc5 h
          refine Sv.region ?_
          obtain ⟨r_4, hr4, h⟩ := bnd h
          refine un (ac_gen (bs := [0, 1]) («as» := [(.c (.ref 0 2 0 0)), (S [92, 116])]) (h2 := _) (h1 := (upd (upd (fun _ => none) 0 (some (.bld 99 zout 1 out.length))) 1 (bufB zout 5 out))) (strings_Builder_WriteString_ok (z := zout) (l := out) hzout hr4) rfl (.cons (.c (.ref rfl (by decide))) (.cons (avAs_free rfl) .nil)) (hsub_refl _) (.cons rfl (.cons rfl (.nil _))) (fun h => by cases h) (by decide) (by decide) (.cons (.c (.ref rfl (by decide))) (.cons (avAs_free rfl) .nil)) (.buf (by decide) rfl (.box (by decide) rfl (.bld rfl (by decide)) .nil)) ?_)
          rintro _ _ _ hn ⟨z_3, hz_3, rfl, rfl, rfl⟩
          refine ⟨.inl rfl, (upd (upd (rem [0, 1] _) 0 (some (.bld 99 z_3 2 r_4.length))) 2 (bufB z_3 5 r_4)), fun hbd => (m3_cons (m3_buf rfl) (m3_cons (m3_box rfl rfl) (m3_rem (in_cons (by decide) (in_cons (by decide) (in_nil _))) (.cons (by decide) (.cons (by decide) .nil)) hbd))), (.tup [(I (([92, 116] : List UInt8).length : Int)), (.c (.val .nilIface))]), 3, (by cases z_3 <;> rfl), rfl, ?_⟩
          refine dnil ?_
          exact Sv.weak (weak_canon [0, 2] rfl (by decide) (by decide) (fun b h => absurd h (Nat.not_lt_zero _)) (.cons rfl (avAs_free rfl) (.cons rfl (avAs_free rfl) (.cons rfl (.c (.ref rfl (by decide))) (.cons rfl (avAs_free rfl) .nil)))) (.buf (by decide) rfl (.box (by decide) rfl (.bld rfl (by decide)) .nil))) (jlex_Quote_j3_ok hz_3 h hself hK0 hr)
        · replace h := ifF hc5 h
          refine Sv.seq ?_
          refine Sv.region ?_
          refine un (a1 rfl ?_)
          refine un (a1 (v := (B (decide ((c_.toNat : Int) < 32)))) rfl ?_)
          refine un (a1 rfl ?_)
          refine gjoin 3 (d := 44) (v := (B ((decide ((c_.toNat : Int) < 32)) || (decide (126 < (c_.toNat : Int)))))) (fun X hX => ?_) ?_
          · refine split2 (fun hc6 => ?_) (fun hc6 => ?_)
            · refine gs rfl rfl ?_
              refine gs rfl rfl ?_
              refine un (a1 (v := (B true)) rfl ?_)
              refine dnil ?_
              exact hX _ (.putEq (by rw [hc6]; rfl) (.skip _ _ (.skip _ _ (.putEq (by rw [hc6]) (.refl _)) rfl) rfl))
            · refine gt rfl (a1 rfl ?_)
              refine gt rfl (a1 (v := (B (decide (126 < (c_.toNat : Int))))) rfl ?_)
              refine un (a1 (v := (B (decide (126 < (c_.toNat : Int))))) rfl ?_)
              refine dnil ?_
              exact hX _ (.putEq (by rw [hc6]; rfl) (.skip _ _ (.skip _ _ (.putEq (by rw [hc6]) (.refl _)) rfl) rfl))
          refine un (a1 rfl ?_)
          refine dnil ?_
          refine Sv.cond (b := ((decide ((c_.toNat : Int) < 32)) || (decide (126 < (c_.toNat : Int))))) rfl (fun hc7 => ?_) (fun hc7 => ?_)
          · replace h := ifT hc7 h
            refine Sv.seq ?_
            refine Sv.region ?_
            refine un (a1 rfl ?_)
            refine dnil ?_
            refine Sv.drawn ?_
            refine un (a1 rfl ?_)
            refine un (a1 rfl ?_)
            refine un (a1 (v := (.c (.val (.int .u8 (shr .u8 (c_.toNat : Int) 4))))) rfl ?_)
            refine un (a1 rfl ?_)
            refine un (a1 (v := (.c (.val (.int .u8 (shr .u8 (c_.toNat : Int) 4))))) rfl ?_)
            refine un (a1 (v := (.c (.val (.int .u8 (wr .u8 ((shr .u8 (c_.toNat : Int) 4) + 1)))))) rfl ?_)
            obtain ⟨r_5, hx3, h⟩ := bnd h
            refine un (a1 (v := (S r_5)) (s_slStr rfl rfl rfl hx3) ?_)
            obtain ⟨r_6, hx4, h⟩ := bnd h
            refine un (a1 (v := (S r_6)) (s_cat rfl rfl hx4) ?_)
            refine un (a1 rfl ?_)
            refine un (a1 rfl ?_)
            refine un (a1 (v := (.c (.val (.int .u8 (bitsV .and .u8 (c_.toNat : Int) 15))))) rfl ?_)
            refine un (a1 rfl ?_)
            refine un (a1 (v := (.c (.val (.int .u8 (bitsV .and .u8 (c_.toNat : Int) 15))))) rfl ?_)
            refine un (a1 (v := (.c (.val (.int .u8 (wr .u8 ((bitsV .and .u8 (c_.toNat : Int) 15) + 1)))))) rfl ?_)
            obtain ⟨r_7, hx5, h⟩ := bnd h
            refine un (a1 (v := (S r_7)) (s_slStr rfl rfl rfl hx5) ?_)
            obtain ⟨r_8, hx6, h⟩ := bnd h
            refine un (a1 (v := (S r_8)) (s_cat rfl rfl hx6) ?_)
            obtain ⟨r_9, hr5, h⟩ := bnd h
            refine un (ac_gen (bs := [0, 1]) («as» := [(.c (.ref 0 2 0 0)), (S r_8)]) (h2 := _) (h1 := (upd (upd (fun _ => none) 0 (some (.bld 99 zout 1 out.length))) 1 (bufB zout 5 out))) (strings_Builder_WriteString_ok (z := zout) (l := out) hzout hr5) rfl (.cons (.c (.ref rfl (by decide))) (.cons (avAs_free rfl) .nil)) (hsub_refl _) (.cons rfl (.cons rfl (.nil _))) (fun h => by cases h) (by decide) (by decide) (.cons (.c (.ref rfl (by decide))) (.cons (avAs_free rfl) .nil)) (.buf (by decide) rfl (.box (by decide) rfl (.bld rfl (by decide)) .nil)) ?_)
            rintro _ _ _ hn ⟨z_4, hz_4, rfl, rfl, rfl⟩
            refine ⟨.inl rfl, (upd (upd (rem [0, 1] _) 0 (some (.bld 99 z_4 2 r_9.length))) 2 (bufB z_4 5 r_9)), fun hbd => (m3_cons (m3_buf rfl) (m3_cons (m3_box rfl rfl) (m3_rem (in_cons (by decide) (in_cons (by decide) (in_nil _))) (.cons (by decide) (.cons (by decide) .nil)) hbd))), (.tup [(I (r_8.length : Int)), (.c (.val .nilIface))]), 3, (by cases z_4 <;> rfl), rfl, ?_⟩
            refine dnil ?_
            exact Sv.weak (weak_canon [0, 2] rfl (by decide) (by decide) (fun b h => absurd h (Nat.not_lt_zero _)) (.cons rfl (avAs_free rfl) (.cons rfl (avAs_free rfl) (.cons rfl (.c (.ref rfl (by decide))) (.cons rfl (avAs_free rfl) .nil)))) (.buf (by decide) rfl (.box (by decide) rfl (.bld rfl (by decide)) .nil))) (jlex_Quote_j3_ok hz_4 h hself hK0 hr)
          · replace h := ifF hc7 h
            refine Sv.region ?_
            refine un (a1 rfl ?_)
            obtain ⟨r_10, hr6, h⟩ := bnd h
            refine un (ac_gen (bs := [0, 1]) («as» := [(.c (.ref 0 2 0 0)), (.c (.val (.int .u8 (c_.toNat : Int))))]) (h2 := _) (h1 := (upd (upd (fun _ => none) 0 (some (.bld 99 zout 1 out.length))) 1 (bufB zout 5 out))) (strings_Builder_WriteByte_ok (z := zout) (l := out) hzout hr6) rfl (.cons (.c (.ref rfl (by decide))) (.cons (avAs_free rfl) .nil)) (hsub_refl _) (.cons rfl (.cons rfl (.nil _))) (fun h => by cases h) (by decide) (by decide) (.cons (.c (.ref rfl (by decide))) (.cons (avAs_free rfl) .nil)) (.buf (by decide) rfl (.box (by decide) rfl (.bld rfl (by decide)) .nil)) ?_)
            rintro _ _ _ hn ⟨z_5, hz_5, rfl, rfl, rfl⟩
            refine ⟨.inl rfl, (upd (upd (rem [0, 1] _) 0 (some (.bld 99 z_5 2 r_10.length))) 2 (bufB z_5 5 r_10)), fun hbd => (m3_cons (m3_buf rfl) (m3_cons (m3_box rfl rfl) (m3_rem (in_cons (by decide) (in_cons (by decide) (in_nil _))) (.cons (by decide) (.cons (by decide) .nil)) hbd))), (.c (.val .nilIface)), 3, (by cases z_5 <;> rfl), rfl, ?_⟩
            refine dnil ?_
            exact Sv.weak (weak_canon [0, 2] rfl (by decide) (by decide) (fun b h => absurd h (Nat.not_lt_zero _)) (.cons rfl (avAs_free rfl) (.cons rfl (avAs_free rfl) (.cons rfl (.c (.ref rfl (by decide))) (.cons rfl (avAs_free rfl) .nil)))) (.buf (by decide) rfl (.box (by decide) rfl (.bld rfl (by decide)) .nil))) (jlex_Quote_j3_ok hz_5 h hself hK0 hr)
  · replace h := ifF hc1 h
    refine Sv.exit ?_
    exact hK0 out zout hzout h _ (weak_canon [0, 1] rfl (by decide) (by decide) (fun b h => absurd h (Nat.not_lt_zero _)) (.cons rfl (.c (.ref rfl (by decide))) .nil) (.buf (by decide) rfl (.box (by decide) rfl (.bld rfl (by decide)) .nil)))
/-- clerestory/jlex.Quote -/
noncomputable def jlex_Quote (s_ : (List UInt8)) : Option (List UInt8) :=
  (strings_Builder_WriteByte ([] : List UInt8) 34).bind fun r_ =>
  lim fun kk => jlex_Quote_l0 s_ (fun (out1 : (List UInt8)) => 
      (strings_Builder_WriteByte out1 34).bind fun r_11 =>
      some r_11) kk r_ 0
theorem jlex_Quote_ok {mL : Int} {s_ : (List UInt8)} {r : (List UInt8)} (h : jlex_Quote s_ = some r) : CPure Tryd.prog (GG mL) 19 [(S s_)] (S r) := by
  refine acalls_of_sv hmix c19 (R := jlex_Quote_post r) ?_
  unfold jlex_Quote at h
  refine Sv.seq ?_
  refine Sv.region ?_
  refine un (a1 rfl ?_)
  refine dnil ?_
  refine Sv.seq ?_
  refine Sv.region ?_
  refine un (a2v (v := (.c (.ref 1 2 0 0))) (h' := upd _ 1 (some (.bld 99 true 0 ([] : List UInt8).length))) (n' := 2) rfl rfl (fun h => by cases h) ?_)
  refine dnil ?_
  refine Sv.seq ?_
  refine Sv.region ?_
  obtain ⟨r_, hr1, h⟩ := bnd h
  refine un (ac_gen (bs := [1, 0]) («as» := [(.c (.ref 1 2 0 0)), (.c (.val (.int .u8 34)))]) (h2 := _) (h1 := (upd (fun _ => none) 1 (some (.bld 99 true 0 ([] : List UInt8).length)))) (strings_Builder_WriteByte_ok (z := true) (l := ([] : List UInt8)) (fun _ => rfl) hr1) rfl (.cons (.c (.ref rfl (by decide))) (.cons (avAs_free rfl) .nil)) (hsub_refl _) (.cons rfl (.nil _)) (fun h => by cases h) (by decide) (by decide) (.cons (.c (.ref rfl (by decide))) (.cons (avAs_free rfl) .nil)) (.nonB (by decide) (.box (by decide) rfl (.bldN (by decide)) .nil)) ?_)
  rintro _ _ _ hn ⟨z_, hz_, rfl, rfl, rfl⟩
  refine ⟨.inl rfl, (upd (upd (rem [1, 0] _) 1 (some (.bld 99 z_ 2 r_.length))) 2 (bufB z_ 5 r_)), fun hbd => (m3_cons (m3_buf rfl) (m3_cons (m3_box rfl rfl) (m3_rem (in_cons (by decide) (in_nil _)) (.cons (by decide) (.cons (by decide) .nil)) hbd))), (.c (.val .nilIface)), 3, (by cases z_ <;> rfl), rfl, ?_⟩
  refine dnil ?_
  refine Sv.seq ?_
  refine Sv.seq ?_
  refine Sv.region ?_
  refine un (a1 rfl ?_)
  refine un (a1 (v := (I (s_.length : Int))) rfl ?_)
  refine un (a1 rfl ?_)
  refine dnil ?_
  refine Sv.block ?_
  obtain ⟨kk, h⟩ := lim_some h
  refine Sv.weak (weak_canon [1, 2] rfl (by decide) (by decide) (fun b h => absurd h (Nat.not_lt_zero _)) (.cons rfl (avAs_free rfl) (.cons rfl (avAs_free rfl) (.cons rfl (.c (.ref rfl (by decide))) (.cons rfl (avAs_free rfl) .nil)))) (.buf (by decide) rfl (.box (by decide) rfl (.bld rfl (by decide)) .nil))) (jlex_Quote_l0_ok hz_ h ?_ (fun s hs => hs))
  · intro out1 zout1 hzout1 h _ hw1
    refine Sv.weak hw1 ?_
    refine Sv.seq ?_
    refine Sv.region ?_
    obtain ⟨r_11, hr7, h⟩ := bnd h
    refine un (ac_gen (bs := [0, 1]) («as» := [(.c (.ref 0 2 0 0)), (.c (.val (.int .u8 34)))]) (h2 := _) (h1 := (upd (upd (fun _ => none) 0 (some (.bld 99 zout1 1 out1.length))) 1 (bufB zout1 5 out1))) (strings_Builder_WriteByte_ok (z := zout1) (l := out1) hzout1 hr7) rfl (.cons (.c (.ref rfl (by decide))) (.cons (avAs_free rfl) .nil)) (hsub_refl _) (.cons rfl (.cons rfl (.nil _))) (fun h => by cases h) (by decide) (by decide) (.cons (.c (.ref rfl (by decide))) (.cons (avAs_free rfl) .nil)) (.buf (by decide) rfl (.box (by decide) rfl (.bld rfl (by decide)) .nil)) ?_)
    rintro _ _ _ hn ⟨z_6, hz_6, rfl, rfl, rfl⟩
    refine ⟨.inl rfl, (upd (upd (rem [0, 1] _) 0 (some (.bld 99 z_6 2 r_11.length))) 2 (bufB z_6 5 r_11)), fun hbd => (m3_cons (m3_buf rfl) (m3_cons (m3_box rfl rfl) (m3_rem (in_cons (by decide) (in_cons (by decide) (in_nil _))) (.cons (by decide) (.cons (by decide) .nil)) hbd))), (.c (.val .nilIface)), 3, (by cases z_6 <;> rfl), rfl, ?_⟩
    refine dnil ?_
    refine Sv.seq ?_
    refine Sv.region ?_
    refine un (ac_gen (bs := [0, 2]) («as» := [(.c (.ref 0 2 0 0))]) (h2 := _) (h1 := (upd (upd (fun _ => none) 0 (some (.bld 99 z_6 2 r_11.length))) 2 (bufB z_6 5 r_11))) (strings_Builder_String_ok (z := z_6) (l := r_11) hz_6) rfl (.cons (.c (.ref rfl (by decide))) .nil) (hsub_refl _) (.cons rfl (.cons rfl (.nil _))) (fun h => by cases h) (by decide) (by decide) (.cons (.c (.ref rfl (by decide))) .nil) (.buf (by decide) rfl (.box (by decide) rfl (.bld rfl (by decide)) .nil)) ?_)
    rintro _ _ _ hn ⟨rfl, rfl, rfl⟩
    refine ⟨.inl rfl, (rem [0, 2] _), fun hbd => (m3_rem (in_cons (by decide) (in_cons (by decide) (in_nil _))) (.nil) hbd), (S r_11), 3, rfl, rfl, ?_⟩
    refine un (a1 rfl ?_)
    refine dnil ?_
    refine Sv.ret ?_
    replace h := Option.some.inj h
    subst h
    exact ⟨_, .refl _, _, rfl, ⟨upd (fun _ => none) 0 (some (S r_11)), (fun _ => none), 0⟩, (S r_11), weak_canon [] rfl List.nodup_nil (Nat.le_refl _) (fun b h => absurd h (Nat.not_lt_zero _)) (.cons rfl (avAs_free rfl) .nil) .nil, rfl, rfl, rfl, rfl⟩
def a20_c0 : ACode := (.region [⟨(some 67), (.bin .add (.tmp 8) (.const (.c (.val (.int .i64 1))))), none⟩, ⟨(some 8), (.mov (.tmp 67)), none⟩])
def a20_c1 : ACode := (.seq (.region [⟨(some 9), (.bin .lss (.tmp 8) (.tmp 7)), none⟩])
 (.seq (.cond (.tmp 9) .skip (.exit 0))
 (.seq (.block 1 (.seq (.region [⟨(some 10), (.mov (.tmp 8)), none⟩, ⟨(some 4), (.mov (.tmp 10)), none⟩])
 (.seq (.region [⟨(some 11), (.mov (.tmp 0)), none⟩, ⟨(some 12), (.mov (.tmp 4)), none⟩, ⟨(some 13), (.idxS (.tmp 11) (.tmp 12)), none⟩, ⟨(some 5), (.mov (.tmp 13)), none⟩])
 (.block 2 (.seq (.region [⟨(some 22), (.mov (.tmp 5)), none⟩, ⟨(some 23), (.bin .eql (.tmp 22) (.const (.c (.val (.int .u8 10))))), none⟩, ⟨(some 21), (.mov (.tmp 23)), none⟩])
 (.cond (.tmp 21) (.region [⟨(some 24), (.mov (.tmp 3)), none⟩, ⟨(some 25), (.bin .add (.tmp 24) (.const (.c (.str [92, 110])))), none⟩, ⟨(some 3), (.mov (.tmp 25)), none⟩]) (.seq (.region [⟨(some 27), (.mov (.tmp 5)), none⟩, ⟨(some 28), (.bin .eql (.tmp 27) (.const (.c (.val (.int .u8 9))))), none⟩, ⟨(some 26), (.mov (.tmp 28)), none⟩])
 (.cond (.tmp 26) (.region [⟨(some 29), (.mov (.tmp 3)), none⟩, ⟨(some 30), (.bin .add (.tmp 29) (.const (.c (.str [92, 116])))), none⟩, ⟨(some 3), (.mov (.tmp 30)), none⟩]) (.seq (.region [⟨(some 32), (.mov (.tmp 5)), none⟩, ⟨(some 33), (.conv .i64 (.tmp 32)), none⟩, ⟨(some 34), (.call 51 [(.tmp 33), (.const (.c (.val (.int .i64 32)))), (.const (.c (.val (.int .i64 126))))]), none⟩, ⟨(some 35), (.un .not (.tmp 34)), none⟩, ⟨(some 31), (.mov (.tmp 35)), none⟩])
 (.cond (.tmp 31) (.drawn (.fin [(⟨(some 36), (.mov (.tmp 3)), none⟩, (0, 0)), (⟨(some 37), (.mov (.tmp 5)), none⟩, (0, 1)), (⟨(some 38), (.bin .quo (.tmp 37) (.const (.c (.val (.int .u8 16))))), none⟩, (0, 2)), (⟨(some 39), (.mov (.tmp 5)), none⟩, (0, 3)), (⟨(some 40), (.bin .quo (.tmp 39) (.const (.c (.val (.int .u8 16))))), none⟩, (0, 4)), (⟨(some 41), (.bin .add (.tmp 40) (.const (.c (.val (.int .u8 1))))), none⟩, (0, 5)), (⟨(some 42), (.slStr (.const (.c (.str [48, 49, 50, 51, 52, 53, 54, 55, 56, 57, 97, 98, 99, 100, 101, 102]))) (some (.tmp 38)) (some (.tmp 41))), none⟩, (0, 6)), (⟨(some 43), (.bin .add (.const (.c (.str [92, 120]))) (.tmp 42)), none⟩, (0, 7)), (⟨(some 44), (.mov (.tmp 5)), none⟩, (0, 8)), (⟨(some 45), (.bin .rem (.tmp 44) (.const (.c (.val (.int .u8 16))))), none⟩, (0, 9)), (⟨(some 46), (.mov (.tmp 5)), none⟩, (0, 10)), (⟨(some 47), (.bin .rem (.tmp 46) (.const (.c (.val (.int .u8 16))))), none⟩, (0, 11)), (⟨(some 48), (.bin .add (.tmp 47) (.const (.c (.val (.int .u8 1))))), none⟩, (0, 12)), (⟨(some 49), (.slStr (.const (.c (.str [48, 49, 50, 51, 52, 53, 54, 55, 56, 57, 97, 98, 99, 100, 101, 102]))) (some (.tmp 45)) (some (.tmp 48))), none⟩, (0, 13)), (⟨(some 50), (.bin .add (.tmp 43) (.tmp 49)), none⟩, (0, 14)), (⟨(some 51), (.bin .add (.tmp 36) (.tmp 50)), none⟩, (0, 15)), (⟨(some 3), (.mov (.tmp 51)), none⟩, (0, 16))])) (.seq (.region [⟨(some 53), (.mov (.tmp 5)), none⟩, ⟨(some 54), (.bin .eql (.tmp 53) (.const (.c (.val (.int .u8 34))))), none⟩, ⟨(some 55), (.mov (.tmp 54)), none⟩, ⟨(some 56), (.mov (.tmp 5)), (some (55, false))⟩, ⟨(some 57), (.bin .eql (.tmp 56) (.const (.c (.val (.int .u8 92))))), (some (55, false))⟩, ⟨(some 58), (.pick (.tmp 55) (.const (.c (.val (.bool true)))) (.tmp 57)), none⟩, ⟨(some 52), (.mov (.tmp 58)), none⟩])
 (.cond (.tmp 52) (.region [⟨(some 59), (.mov (.tmp 3)), none⟩, ⟨(some 60), (.mov (.tmp 0)), none⟩, ⟨(some 61), (.mov (.tmp 4)), none⟩, ⟨(some 62), (.mov (.tmp 4)), none⟩, ⟨(some 63), (.bin .add (.tmp 62) (.const (.c (.val (.int .i64 1))))), none⟩, ⟨(some 64), (.slStr (.tmp 60) (some (.tmp 61)) (some (.tmp 63))), none⟩, ⟨(some 65), (.bin .add (.const (.c (.str [92]))) (.tmp 64)), none⟩, ⟨(some 66), (.bin .add (.tmp 59) (.tmp 65)), none⟩, ⟨(some 3), (.mov (.tmp 66)), none⟩]) (.region [⟨(some 14), (.mov (.tmp 3)), none⟩, ⟨(some 15), (.mov (.tmp 0)), none⟩, ⟨(some 16), (.mov (.tmp 4)), none⟩, ⟨(some 17), (.mov (.tmp 4)), none⟩, ⟨(some 18), (.bin .add (.tmp 17) (.const (.c (.val (.int .i64 1))))), none⟩, ⟨(some 19), (.slStr (.tmp 15) (some (.tmp 16)) (some (.tmp 18))), none⟩, ⟨(some 20), (.bin .add (.tmp 14) (.tmp 19)), none⟩, ⟨(some 3), (.mov (.tmp 20)), none⟩])))))))))))))
 a20_c0)))
def a20 : AFunc := ⟨1, [(.tmp 2)], (.seq (.region [⟨(some 2), (.mov (.const (.c (.str [])))), none⟩])
 (.seq (.region [⟨(some 3), (.mov (.const (.c (.str [34])))), none⟩])
 (.seq (.seq (.region [⟨(some 6), (.mov (.tmp 0)), none⟩, ⟨(some 7), (.lenS (.tmp 6)), none⟩, ⟨(some 8), (.mov (.const (.c (.val (.int .i64 0))))), none⟩])
 (.block 0 (.loop a20_c1)))
 (.seq (.region [⟨(some 68), (.mov (.tmp 3)), none⟩, ⟨(some 69), (.bin .add (.tmp 68) (.const (.c (.str [34])))), none⟩, ⟨(some 2), (.mov (.tmp 69)), none⟩])
 .ret))))⟩
set_option maxRecDepth 100000 in
theorem c20 : compFunc Tryd.prog 20 = some a20 := by kernel_rfl
def clerestoryref4_Quoted_post (r : (List UInt8)) : AV → Heap → Nat → Prop := fun v h' n' => v = (S r) ∧ (h' = (fun _ => none)) ∧ n' = 0
noncomputable def clerestoryref4_Quoted_j3 (v8 : Int) (s_ : (List UInt8)) (self : (List UInt8) → Int → Option (List UInt8)) (K0_ : (List UInt8) → Option (List UInt8)) (out2 : (List UInt8)) : Option (List UInt8) :=
  self out2 (wi (v8 + 1))
theorem clerestoryref4_Quoted_j3_ok {mL : Int} {Q : AExit → St → Prop} {v8 : Int} {s_ : (List UInt8)} {self : (List UInt8) → Int → Option (List UInt8)} {K0_ : (List UInt8) → Option (List UInt8)} {out2 : (List UInt8)} {o : (List UInt8)} (h : clerestoryref4_Quoted_j3 v8 s_ self K0_ out2 = some o)
    (hself : ∀ (out : (List UInt8)) (v8 : Int), self out v8 = some o → ∀ s, Weak 0 s ⟨(upd (upd (upd (upd (fun _ => none) 0 (some (S s_))) 3 (some (S out))) 7 (some (I (s_.length : Int)))) 8 (some (I v8))), (fun _ => none), 0⟩ → (Q) .normal s)
    (hK0 : ∀ (out1 : (List UInt8)), K0_ out1 = some o → ∀ s, Weak 0 s ⟨(upd (fun _ => none) 3 (some (S out1))), (fun _ => none), 0⟩ → Q (.exit 0) s)
    (hr : ∀ s, Ends a20.results 0 (clerestoryref4_Quoted_post o) .ret s → Q .ret s) :
    Sv Tryd.prog (GG mL) 0 a20_c0 Q ⟨(upd (upd (upd (upd (fun _ => none) 0 (some (S s_))) 3 (some (S out2))) 7 (some (I (s_.length : Int)))) 8 (some (I v8))), (fun _ => none), 0⟩ := by
  unfold clerestoryref4_Quoted_j3 at h
  refine Sv.region ?_
  refine un (a1 (v := (I (wi (v8 + 1)))) rfl ?_)
  refine un (a1 rfl ?_)
  refine dnil ?_
  exact hself out2 (wi (v8 + 1)) h _ (weak_canon [] rfl (by decide) (by decide) (fun b h => absurd h (Nat.not_lt_zero _)) (.cons rfl (avAs_free rfl) (.cons rfl (avAs_free rfl) (.cons rfl (avAs_free rfl) (.cons rfl (avAs_free rfl) .nil)))) .nil)
noncomputable def clerestoryref4_Quoted_l0 (s_ : (List UInt8)) (K0_ : (List UInt8) → Option (List UInt8)) : Nat → (List UInt8) → Int → Option (List UInt8)
  | 0, _, _ => none
  | k + 1, out, v8 =>
    if decide (v8 < (s_.length : Int)) then
      (at? s_ v8).bind fun c_ =>
      if decide ((c_.toNat : Int) = 10) then
        (cat? out [92, 110]).bind fun r_ =>
        clerestoryref4_Quoted_j3 v8 s_ (clerestoryref4_Quoted_l0 s_ K0_ k) K0_ r_
      else
        if decide ((c_.toNat : Int) = 9) then
          (cat? out [92, 116]).bind fun r_1 =>
          clerestoryref4_Quoted_j3 v8 s_ (clerestoryref4_Quoted_l0 s_ K0_ k) K0_ r_1
        else
          if (!(clerestoryref4_Between (wr .i64 (c_.toNat : Int)) 32 126)) then
            (sub? [48, 49, 50, 51, 52, 53, 54, 55, 56, 57, 97, 98, 99, 100, 101, 102] (wr .u8 ((c_.toNat : Int).tdiv 16)) (wr .u8 ((wr .u8 ((c_.toNat : Int).tdiv 16)) + 1))).bind fun r_2 =>
            (cat? [92, 120] r_2).bind fun r_3 =>
            (sub? [48, 49, 50, 51, 52, 53, 54, 55, 56, 57, 97, 98, 99, 100, 101, 102] ((c_.toNat : Int).tmod 16) (wr .u8 (((c_.toNat : Int).tmod 16) + 1))).bind fun r_4 =>
            (cat? r_3 r_4).bind fun r_5 =>
            (cat? out r_5).bind fun r_6 =>
            clerestoryref4_Quoted_j3 v8 s_ (clerestoryref4_Quoted_l0 s_ K0_ k) K0_ r_6
          else
            if ((decide ((c_.toNat : Int) = 34)) || (decide ((c_.toNat : Int) = 92))) then
              (sub? s_ v8 (wi (v8 + 1))).bind fun r_7 =>
              (cat? [92] r_7).bind fun r_8 =>
              (cat? out r_8).bind fun r_9 =>
              clerestoryref4_Quoted_j3 v8 s_ (clerestoryref4_Quoted_l0 s_ K0_ k) K0_ r_9
            else
              (sub? s_ v8 (wi (v8 + 1))).bind fun r_10 =>
              (cat? out r_10).bind fun r_11 =>
              clerestoryref4_Quoted_j3 v8 s_ (clerestoryref4_Quoted_l0 s_ K0_ k) K0_ r_11
    else
      K0_ out
theorem clerestoryref4_Quoted_l0_ok {mL : Int} {Q : AExit → St → Prop} {s_ : (List UInt8)} {K0_ : (List UInt8) → Option (List UInt8)} {k : Nat} {out : (List UInt8)} {v8 : Int} {o : (List UInt8)} (h : clerestoryref4_Quoted_l0 s_ K0_ k out v8 = some o)
    (hK0 : ∀ (out1 : (List UInt8)), K0_ out1 = some o → ∀ s, Weak 0 s ⟨(upd (fun _ => none) 3 (some (S out1))), (fun _ => none), 0⟩ → Q (.exit 0) s)
    (hr : ∀ s, Ends a20.results 0 (clerestoryref4_Quoted_post o) .ret s → Q .ret s) :
    Sv Tryd.prog (GG mL) 0 (.loop a20_c1) Q ⟨(upd (upd (upd (upd (fun _ => none) 0 (some (S s_))) 3 (some (S out))) 7 (some (I (s_.length : Int)))) 8 (some (I v8))), (fun _ => none), 0⟩ := by
  refine Sv.loop (I := fun k s => ∃ (out : (List UInt8)), ∃ (v8 : Int), clerestoryref4_Quoted_l0 s_ K0_ k out v8 = some o ∧ s = ⟨(upd (upd (upd (upd (fun _ => none) 0 (some (S s_))) 3 (some (S out))) 7 (some (I (s_.length : Int)))) 8 (some (I v8))), (fun _ => none), 0⟩) (fun k s hI => ?_) ⟨out, v8, h, rfl⟩
  clear h
  clear v8 out
  obtain ⟨out, v8, h, rfl⟩ := hI
  cases k with
  | zero => cases h
  | succ k =>
  rw [clerestoryref4_Quoted_l0] at h
  have hself : ∀ (out : (List UInt8)) (v8 : Int), (clerestoryref4_Quoted_l0 s_ K0_ k) out v8 = some o → ∀ s, Weak 0 s ⟨(upd (upd (upd (upd (fun _ => none) 0 (some (S s_))) 3 (some (S out))) 7 (some (I (s_.length : Int)))) 8 (some (I v8))), (fun _ => none), 0⟩ → (AThen (fun s' => ∃ s'' k', Weak 0 s' s'' ∧ k' < k + 1 ∧ (fun k s => ∃ (out : (List UInt8)), ∃ (v8 : Int), clerestoryref4_Quoted_l0 s_ K0_ k out v8 = some o ∧ s = ⟨(upd (upd (upd (upd (fun _ => none) 0 (some (S s_))) 3 (some (S out))) 7 (some (I (s_.length : Int)))) 8 (some (I v8))), (fun _ => none), 0⟩) k' s'') Q) .normal s := fun out v8 h s hw => ⟨_, k, hw, Nat.lt_succ_self k, out, v8, h, rfl⟩
  refine Sv.seq ?_
  refine Sv.region ?_
  refine un (a1 (v := (B (decide (v8 < (s_.length : Int))))) rfl ?_)
  refine dnil ?_
  refine Sv.seq ?_
  refine Sv.cond (b := decide (v8 < (s_.length : Int))) rfl (fun hc1 => ?_) (fun hc1 => ?_)
  · replace h := ifT hc1 h
    refine Sv.skip ?_
    refine Sv.seq ?_
    refine Sv.block ?_
    refine Sv.seq ?_
    refine Sv.region ?_
    refine un (a1 rfl ?_)
    refine un (a1 rfl ?_)
    refine dnil ?_
    refine Sv.seq ?_
    refine Sv.region ?_
    refine un (a1 rfl ?_)
    refine un (a1 rfl ?_)
    obtain ⟨c_, hx1, h⟩ := bnd h
    refine un (a1 (v := (.c (.val (.int .u8 (c_.toNat : Int))))) (s_idxS rfl rfl hx1) ?_)
    refine un (a1 rfl ?_)
    refine dnil ?_
    refine Sv.block ?_
    refine Sv.seq ?_
    refine Sv.region ?_
    refine un (a1 rfl ?_)
    refine un (a1 (v := (B (decide ((c_.toNat : Int) = 10)))) rfl ?_)
    refine un (a1 rfl ?_)
    refine dnil ?_
    refine Sv.cond (b := decide ((c_.toNat : Int) = 10)) rfl (fun hc2 => ?_) (fun hc2 => ?_)
    · replace h := ifT hc2 h
      refine Sv.region ?_
      refine un (a1 rfl ?_)
      obtain ⟨r_, hx2, h⟩ := bnd h
      refine un (a1 (v := (S r_)) (s_cat rfl rfl hx2) ?_)
      refine un (a1 rfl ?_)
      refine dnil ?_
      exact Sv.weak (weak_canon [] rfl (by decide) (by decide) (fun b h => absurd h (Nat.not_lt_zero _)) (.cons rfl (avAs_free rfl) (.cons rfl (avAs_free rfl) (.cons rfl (avAs_free rfl) (.cons rfl (avAs_free rfl) .nil)))) .nil) (clerestoryref4_Quoted_j3_ok h hself hK0 hr)
    · replace h := ifF hc2 h
      refine Sv.seq ?_
      refine Sv.region ?_
      refine un (a1 rfl ?_)
      refine un (a1 (v := (B (decide ((c_.toNat : Int) = 9)))) rfl ?_)
      refine un (a1 rfl ?_)
      refine dnil ?_
      refine Sv.cond (b := decide ((c_.toNat : Int) = 9)) rfl (fun hc3 => ?_) (fun hc3 => ?_)
      · replace h := ifT hc3 h
        refine Sv.region ?_
        refine un (a1 rfl ?_)
        obtain ⟨r_1, hx3, h⟩ := bnd h
        refine un (a1 (v := (S r_1)) (s_cat rfl rfl hx3) ?_)
        refine un (a1 rfl ?_)
        refine dnil ?_
        exact Sv.weak (weak_canon [] rfl (by decide) (by decide) (fun b h => absurd h (Nat.not_lt_zero _)) (.cons rfl (avAs_free rfl) (.cons rfl (avAs_free rfl) (.cons rfl (avAs_free rfl) (.cons rfl (avAs_free rfl) .nil)))) .nil) (clerestoryref4_Quoted_j3_ok h hself hK0 hr)
      · replace h := ifF hc3 h
        refine Sv.seq ?_
        refine Sv.region ?_
        refine un (a1 rfl ?_)
        refine un (a1 (v := (I (wr .i64 (c_.toNat : Int)))) rfl ?_)
        refine un (ac_pure (clerestoryref4_Between_ok (mL := mL) (wr .i64 (c_.toNat : Int)) 32 126) rfl rfl rfl ?_)
        refine un (a1 (v := (B (!(clerestoryref4_Between (wr .i64 (c_.toNat : Int)) 32 126)))) rfl ?_)
        refine un (a1 rfl ?_)
        refine dnil ?_
        refine Sv.cond (b := (!(clerestoryref4_Between (wr .i64 (c_.toNat : Int)) 32 126))) rfl (fun hc4 => ?_) (fun hc4 => ?_)
        · replace h := ifT hc4 h
          refine Sv.drawn ?_
          refine un (a1 rfl ?_)
          refine un (a1 rfl ?_)
          refine un (a1 (v := (.c (.val (.int .u8 (wr .u8 ((c_.toNat : Int).tdiv 16)))))) rfl ?_)
          refine un (a1 rfl ?_)
          refine un (a1 (v := (.c (.val (.int .u8 (wr .u8 ((c_.toNat : Int).tdiv 16)))))) rfl ?_)
          refine un (a1 (v := (.c (.val (.int .u8 (wr .u8 ((wr .u8 ((c_.toNat : Int).tdiv 16)) + 1)))))) rfl ?_)
          obtain ⟨r_2, hx4, h⟩ := bnd h
          refine un (a1 (v := (S r_2)) (s_slStr rfl rfl rfl hx4) ?_)
          obtain ⟨r_3, hx5, h⟩ := bnd h
          refine un (a1 (v := (S r_3)) (s_cat rfl rfl hx5) ?_)
          refine un (a1 rfl ?_)
          refine un (a1 (v := (.c (.val (.int .u8 ((c_.toNat : Int).tmod 16))))) rfl ?_)
          refine un (a1 rfl ?_)
          refine un (a1 (v := (.c (.val (.int .u8 ((c_.toNat : Int).tmod 16))))) rfl ?_)
          refine un (a1 (v := (.c (.val (.int .u8 (wr .u8 (((c_.toNat : Int).tmod 16) + 1)))))) rfl ?_)
          obtain ⟨r_4, hx6, h⟩ := bnd h
          refine un (a1 (v := (S r_4)) (s_slStr rfl rfl rfl hx6) ?_)
          obtain ⟨r_5, hx7, h⟩ := bnd h
          refine un (a1 (v := (S r_5)) (s_cat rfl rfl hx7) ?_)
          obtain ⟨r_6, hx8, h⟩ := bnd h
          refine un (a1 (v := (S r_6)) (s_cat rfl rfl hx8) ?_)
          refine un (a1 rfl ?_)
          refine dnil ?_
          exact Sv.weak (weak_canon [] rfl (by decide) (by decide) (fun b h => absurd h (Nat.not_lt_zero _)) (.cons rfl (avAs_free rfl) (.cons rfl (avAs_free rfl) (.cons rfl (avAs_free rfl) (.cons rfl (avAs_free rfl) .nil)))) .nil) (clerestoryref4_Quoted_j3_ok h hself hK0 hr)
        · replace h := ifF hc4 h
          refine Sv.seq ?_
          refine Sv.region ?_
          refine un (a1 rfl ?_)
          refine un (a1 (v := (B (decide ((c_.toNat : Int) = 34)))) rfl ?_)
          refine un (a1 rfl ?_)
          refine gjoin 3 (d := 58) (v := (B ((decide ((c_.toNat : Int) = 34)) || (decide ((c_.toNat : Int) = 92))))) (fun X hX => ?_) ?_
          · refine split2 (fun hc5 => ?_) (fun hc5 => ?_)
            · refine gs rfl rfl ?_
              refine gs rfl rfl ?_
              refine un (a1 (v := (B true)) rfl ?_)
              refine dnil ?_
              exact hX _ (.putEq (by rw [hc5]; rfl) (.skip _ _ (.skip _ _ (.putEq (by rw [hc5]) (.refl _)) rfl) rfl))
            · refine gt rfl (a1 rfl ?_)
              refine gt rfl (a1 (v := (B (decide ((c_.toNat : Int) = 92)))) rfl ?_)
              refine un (a1 (v := (B (decide ((c_.toNat : Int) = 92)))) rfl ?_)
              refine dnil ?_
              exact hX _ (.putEq (by rw [hc5]; rfl) (.skip _ _ (.skip _ _ (.putEq (by rw [hc5]) (.refl _)) rfl) rfl))
          refine un (a1 rfl ?_)
          refine dnil ?_
          refine Sv.cond (b := ((decide ((c_.toNat : Int) = 34)) || (decide ((c_.toNat : Int) = 92)))) rfl (fun hc6 => ?_) (fun hc6 => ?_)
          · replace h := ifT hc6 h
            refine Sv.region ?_
            refine un (a1 rfl ?_)
            refine un (a1 rfl ?_)
            refine un (a1 rfl ?_)
            refine un (a1 rfl ?_)
            refine un (a1 (v := (I (wi (v8 + 1)))) rfl ?_)
            obtain ⟨r_7, hx9, h⟩ := bnd h
            refine un (a1 (v := (S r_7)) (s_slStr rfl rfl rfl hx9) ?_)
            obtain ⟨r_8, hx10, h⟩ := bnd h
            refine un (a1 (v := (S r_8)) (s_cat rfl rfl hx10) ?_)
            obtain ⟨r_9, hx11, h⟩ := bnd h
            refine un (a1 (v := (S r_9)) (s_cat rfl rfl hx11) ?_)
            refine un (a1 rfl ?_)
            refine dnil ?_
            exact Sv.weak (weak_canon [] rfl (by decide) (by decide) (fun b h => absurd h (Nat.not_lt_zero _)) (.cons rfl (avAs_free rfl) (.cons rfl (avAs_free rfl) (.cons rfl (avAs_free rfl) (.cons rfl (avAs_free rfl) .nil)))) .nil) (clerestoryref4_Quoted_j3_ok h hself hK0 hr)
          · replace h := ifF hc6 h
            refine Sv.region ?_
            refine un (a1 rfl ?_)
            refine un (a1 rfl ?_)
            refine un (a1 rfl ?_)
            refine un (a1 rfl ?_)
            refine un (a1 (v := (I (wi (v8 + 1)))) rfl ?_)
            obtain ⟨r_10, hx12, h⟩ := bnd h
            refine un (a1 (v := (S r_10)) (s_slStr rfl rfl rfl hx12) ?_)
            obtain ⟨r_11, hx13, h⟩ := bnd h
            refine un (a1 (v := (S r_11)) (s_cat rfl rfl hx13) ?_)
            refine un (a1 rfl ?_)
            refine dnil ?_
            exact Sv.weak (weak_canon [] rfl (by decide) (by decide) (fun b h => absurd h (Nat.not_lt_zero _)) (.cons rfl (avAs_free rfl) (.cons rfl (avAs_free rfl) (.cons rfl (avAs_free rfl) (.cons rfl (avAs_free rfl) .nil)))) .nil) (clerestoryref4_Quoted_j3_ok h hself hK0 hr)
  · replace h := ifF hc1 h
    refine Sv.exit ?_
    exact hK0 out h _ (weak_canon [] rfl (by decide) (by decide) (fun b h => absurd h (Nat.not_lt_zero _)) (.cons rfl (avAs_free rfl) .nil) .nil)
/-- clerestory/clerestoryref4.Quoted -/
noncomputable def clerestoryref4_Quoted (s_ : (List UInt8)) : Option (List UInt8) :=
  lim fun kk => clerestoryref4_Quoted_l0 s_ (fun (out1 : (List UInt8)) => 
      (cat? out1 [34]).bind fun r_12 =>
      some r_12) kk [34] 0
theorem clerestoryref4_Quoted_ok {mL : Int} {s_ : (List UInt8)} {r : (List UInt8)} (h : clerestoryref4_Quoted s_ = some r) : CPure Tryd.prog (GG mL) 20 [(S s_)] (S r) := by
  refine acalls_of_sv hmix c20 (R := clerestoryref4_Quoted_post r) ?_
  unfold clerestoryref4_Quoted at h
  refine Sv.seq ?_
  refine Sv.region ?_
  refine un (a1 rfl ?_)
  refine dnil ?_
  refine Sv.seq ?_
  refine Sv.region ?_
  refine un (a1 rfl ?_)
  refine dnil ?_
  refine Sv.seq ?_
  refine Sv.seq ?_
  refine Sv.region ?_
  refine un (a1 rfl ?_)
  refine un (a1 (v := (I (s_.length : Int))) rfl ?_)
  refine un (a1 rfl ?_)
  refine dnil ?_
  refine Sv.block ?_
  obtain ⟨kk, h⟩ := lim_some h
  refine Sv.weak (weak_canon [] rfl (by decide) (by decide) (fun b h => absurd h (Nat.not_lt_zero _)) (.cons rfl (avAs_free rfl) (.cons rfl (avAs_free rfl) (.cons rfl (avAs_free rfl) (.cons rfl (avAs_free rfl) .nil)))) .nil) (clerestoryref4_Quoted_l0_ok h ?_ (fun s hs => hs))
  · intro out1 h _ hw1
    refine Sv.weak hw1 ?_
    refine Sv.seq ?_
    refine Sv.region ?_
    refine un (a1 rfl ?_)
    obtain ⟨r_12, hx14, h⟩ := bnd h
    refine un (a1 (v := (S r_12)) (s_cat rfl rfl hx14) ?_)
    refine un (a1 rfl ?_)
    refine dnil ?_
    refine Sv.ret ?_
    replace h := Option.some.inj h
    subst h
    exact ⟨_, .refl _, _, rfl, ⟨upd (fun _ => none) 0 (some (S r_12)), (fun _ => none), 0⟩, (S r_12), weak_canon [] rfl List.nodup_nil (Nat.le_refl _) (fun b h => absurd h (Nat.not_lt_zero _)) (.cons rfl (avAs_free rfl) .nil) .nil, rfl, rfl, rfl, rfl⟩
def a5_c0 : ACode := .ret
def a5 : AFunc := ⟨1, [(.tmp 2)], (.seq (.region [⟨(some 2), (.mov (.const (.c (.val (.bool false))))), none⟩])
 (.seq (.region [⟨(some 8), (.mov (.tmp 0)), none⟩, ⟨(some 9), (.call 16 [(.tmp 8)]), none⟩, ⟨(some 7), (.mov (.tmp 9)), none⟩, ⟨(some 10), (.ext (.tmp 7) 0), none⟩, ⟨(some 11), (.ext (.tmp 7) 1), none⟩, ⟨(some 3), (.mov (.tmp 10)), none⟩, ⟨(some 4), (.mov (.tmp 11)), none⟩])
 (.seq (.region [⟨(some 13), (.mov (.tmp 0)), none⟩, ⟨(some 14), (.call 17 [(.tmp 13)]), none⟩, ⟨(some 12), (.mov (.tmp 14)), none⟩, ⟨(some 15), (.ext (.tmp 12) 0), none⟩, ⟨(some 16), (.ext (.tmp 12) 1), none⟩, ⟨(some 5), (.mov (.tmp 15)), none⟩, ⟨(some 6), (.mov (.tmp 16)), none⟩])
 (.seq (.region [⟨(some 17), (.mov (.tmp 3)), none⟩, ⟨(some 18), (.mov (.tmp 5)), none⟩, ⟨(some 19), (.call 18 [(.tmp 17), (.tmp 18)]), none⟩, ⟨(some 20), (.mov (.tmp 19)), none⟩, ⟨(some 21), (.mov (.tmp 4)), (some (20, true))⟩, ⟨(some 22), (.mov (.tmp 6)), (some (20, true))⟩, ⟨(some 23), (.bin .eql (.tmp 21) (.tmp 22)), (some (20, true))⟩, ⟨(some 24), (.pick (.tmp 20) (.tmp 23) (.const (.c (.val (.bool false))))), none⟩, ⟨(some 25), (.mov (.tmp 24)), none⟩, ⟨(some 26), (.mov (.tmp 0)), (some (25, true))⟩, ⟨(some 27), (.call 19 [(.tmp 26)]), (some (25, true))⟩, ⟨(some 28), (.mov (.tmp 0)), (some (25, true))⟩, ⟨(some 29), (.call 20 [(.tmp 28)]), (some (25, true))⟩, ⟨(some 30), (.bin .eql (.tmp 27) (.tmp 29)), (some (25, true))⟩, ⟨(some 31), (.pick (.tmp 25) (.tmp 30) (.const (.c (.val (.bool false))))), none⟩, ⟨(some 2), (.mov (.tmp 31)), none⟩])
 a5_c0))))⟩
set_option maxRecDepth 100000 in
theorem c5 : compFunc Tryd.prog 5 = some a5 := by kernel_rfl
def clerestorylaw4_JlexSays_post (r : Bool) : AV → Heap → Nat → Prop := fun v h' n' => v = (B r) ∧ (h' = (fun _ => none)) ∧ n' = 0
noncomputable def clerestorylaw4_JlexSays_j1 (v2 : Bool) : Option Bool :=
  some v2
theorem clerestorylaw4_JlexSays_j1_ok {mL : Int} {v2 : Bool} {o : Bool} (h : clerestorylaw4_JlexSays_j1 v2 = some o) :
    Sv Tryd.prog (GG mL) 0 a5_c0 (Ends a5.results 0 (clerestorylaw4_JlexSays_post o)) ⟨(upd (fun _ => none) 2 (some (B v2))), (fun _ => none), 0⟩ := by
  unfold clerestorylaw4_JlexSays_j1 at h
  refine Sv.ret ?_
  replace h := Option.some.inj h
  subst h
  exact ⟨_, .refl _, _, rfl, ⟨upd (fun _ => none) 0 (some (B v2)), (fun _ => none), 0⟩, (B v2), weak_canon [] rfl List.nodup_nil (Nat.le_refl _) (fun b h => absurd h (Nat.not_lt_zero _)) (.cons rfl (avAs_free rfl) .nil) .nil, rfl, rfl, rfl, rfl⟩
/-- clerestory/clerestorylaw4.JlexSays -/
noncomputable def clerestorylaw4_JlexSays (s_ : (List UInt8)) : Option Bool :=
  (jlex_Tokens s_).bind fun r_ =>
  (clerestoryref4_Tokened s_).bind fun r_1 =>
  (clerestoryref4_SameToks r_.1 r_1.1).bind fun r_2 =>
  if (r_2 && (decide (r_.2 = r_1.2))) then
    (jlex_Quote s_).bind fun r_3 =>
    (clerestoryref4_Quoted s_).bind fun r_4 =>
    clerestorylaw4_JlexSays_j1 (decide (r_3 = r_4))
  else
    clerestorylaw4_JlexSays_j1 false
theorem clerestorylaw4_JlexSays_ok {mL : Int} {s_ : (List UInt8)} {r : Bool} (h : clerestorylaw4_JlexSays s_ = some r) : CPure Tryd.prog (GG mL) 5 [(S s_)] (B r) := by
  refine acalls_of_sv hmix c5 (R := clerestorylaw4_JlexSays_post r) ?_
  unfold clerestorylaw4_JlexSays at h
  refine Sv.seq ?_
  refine Sv.region ?_
  refine un (a1 rfl ?_)
  refine dnil ?_
  refine Sv.seq ?_
  refine Sv.region ?_
  refine un (a1 rfl ?_)
  obtain ⟨r_, hr1, h⟩ := bnd h
  refine un (ac_gen (bs := []) («as» := [(S s_)]) (h2 := _) (h1 := (fun _ => none)) (jlex_Tokens_ok hr1) rfl (.cons (avAs_free rfl) .nil) (hsub_refl _) (.nil _) (fun _ => rfl) (by decide) (by decide) (.cons (avAs_free rfl) .nil) .nil ?_)
  rintro _ _ _ hn ⟨z_, hz_, rfl, rfl, rfl⟩
  refine ⟨.inl rfl, (upd (rem [] _) 0 (lstB z_ 5 (r_.1.map e_TJTok))), fun hbd => (m3_cons (m3_row rfl (fr_map fun _ => rfl)) (m3_rem (in_nil _) (.cons (by decide) .nil) hbd)), (.tup [(lstV z_ 0 5 r_.1.length), (I r_.2)]), 1, (by cases z_ <;> rfl), rfl, ?_⟩
  refine un (a1 rfl ?_)
  refine un (a1 (v := (lstV z_ 0 5 r_.1.length)) rfl ?_)
  refine un (a1 (v := (I r_.2)) rfl ?_)
  refine un (a1 rfl ?_)
  refine un (a1 rfl ?_)
  refine dnil ?_
  refine Sv.seq ?_
  refine Sv.region ?_
  refine un (a1 rfl ?_)
  obtain ⟨r_1, hr2, h⟩ := bnd h
  refine un (ac_gen (bs := []) («as» := [(S s_)]) (h2 := _) (h1 := (fun _ => none)) (clerestoryref4_Tokened_ok hr2) rfl (.cons (avAs_free rfl) .nil) (hsub_refl _) (.nil _) (fun _ => rfl) (by decide) (by decide) (.cons (avAs_free rfl) .nil) .nil ?_)
  rintro _ _ _ hn ⟨z_1, hz_1, rfl, rfl, rfl⟩
  refine ⟨.inl rfl, (upd (rem [] _) 1 (lstB z_1 5 (r_1.1.map e_TJTok))), fun hbd => (m3_cons (m3_row rfl (fr_map fun _ => rfl)) (m3_rem (in_nil _) (.cons (by decide) .nil) hbd)), (.tup [(lstV z_1 1 5 r_1.1.length), (I r_1.2)]), 2, (by cases z_1 <;> rfl), rfl, ?_⟩
  refine un (a1 rfl ?_)
  refine un (a1 (v := (lstV z_1 1 5 r_1.1.length)) rfl ?_)
  refine un (a1 (v := (I r_1.2)) rfl ?_)
  refine un (a1 rfl ?_)
  refine un (a1 rfl ?_)
  refine dnil ?_
  refine Sv.seq ?_
  refine Sv.region ?_
  refine un (a1 rfl ?_)
  refine un (a1 rfl ?_)
  obtain ⟨r_2, hr3, h⟩ := bnd h
  refine un (ac_lend (h2 := (upd (upd _ 0 none) 1 none)) (clerestoryref4_SameToks_ok hr3) rfl (.cons (.c (lstC_ro (es := List.map e_TJTok r_.1) rfl (List.length_map e_TJTok).symm (map_nil_of hz_) (gone rfl) (fr_map fun _ => rfl))) (.cons (.c (lstC_ro (es := List.map e_TJTok r_1.1) rfl (List.length_map e_TJTok).symm (map_nil_of hz_1) (gone rfl) (fr_map fun _ => rfl))) .nil)) (hsub_none (hsub_none (hsub_refl _))) rfl rfl (.inr rfl) ?_)
  refine un (a1 rfl ?_)
  refine gjoin 4 (d := 24) (v := (B (r_2 && (decide (r_.2 = r_1.2))))) (fun X hX => ?_) ?_
  · refine split2 (fun hc1 => ?_) (fun hc1 => ?_)
    · refine gt rfl (a1 rfl ?_)
      refine gt rfl (a1 rfl ?_)
      refine gt rfl (a1 (v := (B (decide (r_.2 = r_1.2)))) rfl ?_)
      refine un (a1 (v := (B (decide (r_.2 = r_1.2)))) rfl ?_)
      refine dnil ?_
      exact hX _ (.putEq (by rw [hc1]; rfl) (.skip _ _ (.skip _ _ (.skip _ _ (.putEq (by rw [hc1]) (.refl _)) rfl) rfl) rfl))
    · refine gs rfl rfl ?_
      refine gs rfl rfl ?_
      refine gs rfl rfl ?_
      refine un (a1 (v := (B false)) rfl ?_)
      refine dnil ?_
      exact hX _ (.putEq (by rw [hc1]; rfl) (.skip _ _ (.skip _ _ (.skip _ _ (.putEq (by rw [hc1]) (.refl _)) rfl) rfl) rfl))
  refine un (a1 rfl ?_)
  refine split2 (fun hc2 => ?_) (fun hc2 => ?_)
  · replace h := ifT hc2 h
    refine gt rfl (a1 rfl ?_)
    obtain ⟨r_3, hr4, h⟩ := bnd h
    refine gt rfl (ac_pure (jlex_Quote_ok hr4) rfl rfl rfl ?_)
    refine gt rfl (a1 rfl ?_)
    obtain ⟨r_4, hr5, h⟩ := bnd h
    refine gt rfl (ac_pure (clerestoryref4_Quoted_ok hr5) rfl rfl rfl ?_)
    refine gt rfl (a1 (v := (B (decide (r_3 = r_4)))) rfl ?_)
    refine un (a1 (v := (B (decide (r_3 = r_4)))) rfl ?_)
    refine un (a1 rfl ?_)
    refine dnil ?_
    exact Sv.weak (weak_canon [] rfl (by decide) (by decide) (fun b h => absurd h (Nat.not_lt_zero _)) (.cons rfl (avAs_free rfl) .nil) .nil) (clerestorylaw4_JlexSays_j1_ok h)
  · replace h := ifF hc2 h
    refine gs rfl rfl ?_
    refine gs rfl rfl ?_
    refine gs rfl rfl ?_
    refine gs rfl rfl ?_
    refine gs rfl rfl ?_
    refine un (a1 (v := (B false)) rfl ?_)
    refine un (a1 rfl ?_)
    refine dnil ?_
    exact Sv.weak (weak_canon [] rfl (by decide) (by decide) (fun b h => absurd h (Nat.not_lt_zero _)) (.cons rfl (avAs_free rfl) .nil) .nil) (clerestorylaw4_JlexSays_j1_ok h)
end Go.Proofs.YtagfmlkihindaaaDoorBv
