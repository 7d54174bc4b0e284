/- Printed by a program of mine (bgen.py): plain functions, and the walks that show that the code comes to what they answer. -/
import Derived.Test.YtoomjemboekooaaGLoopSteps1
namespace Go.Proofs.YtoomjemboekooaaBv
open Go
set_option linter.unusedVariables false
set_option linter.unusedSimpArgs false
set_option maxRecDepth 100000
def a11_c1 : ACode := (.seq (sr [(oP 103 (.faddr 2 (.tmp 3))), (oP 104 (.load false 1 (.tmp 103))), (oP 105 (.faddr 0 (.tmp 3))), (oP 106 (.load false 1 (.tmp 105))), (oP 107 (.bin .sub (.tmp 106) (kI 3))), (oP 108 (.call 12 [(.tmp 104), (.tmp 107), (kI 1000000)])), (oP 109 (.un .not (.tmp 108))), (mV 110 109), ⟨(some 111), (.faddr 0 (.tmp 2)), (some (110, false))⟩, ⟨(some 112), (.load false 1 (.tmp 111)), (some (110, false))⟩, ⟨(some 113), (.faddr 2 (.tmp 3)), (some (110, false))⟩, ⟨(some 114), (.load false 1 (.tmp 113)), (some (110, false))⟩, ⟨(some 115), (.bin .add (.tmp 112) (.tmp 114)), (some (110, false))⟩, ⟨(some 116), (.bin .gtr (.tmp 115) (kI 1000000000)), (some (110, false))⟩, (oP 117 (.pick (.tmp 110) kT (.tmp 116)))]
 (.cond (.tmp 117) (sr [(mV 118 7), (oP 119 (.callv (.tmp 118) [(kI 1)])), (oP 120 (.ext (.tmp 119) 0)), (oP 121 (.ext (.tmp 119) 1)), (oP 122 (.ext (.tmp 119) 2)), (oN (.store 5 (.tmp 4) (.tmp 120))), (mV 5 121), (mV 6 122)]
 .ret) .skip))
 (.seq (sr [(mV 123 8), (oP 124 (.faddr 4 (.tmp 2))), (oP 125 (.load false 1 (.tmp 124))), (oP 126 (.len (.tmp 125))), (oP 127 (.callv (.tmp 123) [(.tmp 126)])), (oP 128 (.un .not (.tmp 127)))]
 (.cond (.tmp 128) (sr [(mV 129 7), (oP 130 (.callv (.tmp 129) [(kI 2)])), (oP 131 (.ext (.tmp 130) 0)), (oP 132 (.ext (.tmp 130) 1)), (oP 133 (.ext (.tmp 130) 2)), (oN (.store 5 (.tmp 4) (.tmp 131))), (mV 5 132), (mV 6 133)]
 .ret) .skip))
 (.region [(oP 134 (.faddr 4 (.tmp 2))), (oP 135 (.load false 1 (.tmp 134))), (oP 136 (.load true 5 (.tmp 10))), (oP 137 (.call 47 [(.tmp 135), (.tmp 136)])), (oP 138 (.faddr 4 (.tmp 2))), (oN (.store 1 (.tmp 138) (.tmp 137)))])))
def a11_c3 : ACode := (.region [(oP 157 (.bin .add (.tmp 144) (kI 1))), (mV 144 157)])
def a11_c4 : ACode := (sr [(oP 145 (.bin .lss (.tmp 144) (.tmp 143)))]
 (.seq (.cond (.tmp 145) .skip (.exit 1))
 (.seq (.block 2 (sr [(oP 146 (.iaddr 5 (.tmp 142) (.tmp 144))), (oP 147 (.load true 5 (.tmp 146))), (oP 13 (.box (.const (.agg [(.val (.int .i64 0)), (.val (.int .i64 0)), (.val (.int .i64 0)), (.val (.int .i64 0)), (.str [])])))), (oN (.store 5 (.tmp 13) (.tmp 147)))]
 (sr [(oP 148 (.faddr 0 (.tmp 13))), (oP 149 (.load false 1 (.tmp 148))), (oP 150 (.faddr 2 (.tmp 3))), (oP 151 (.load false 1 (.tmp 150))), (oP 152 (.bin .neq (.tmp 149) (.tmp 151)))]
 (.cond (.tmp 152) (.region [(mV 153 11), (oP 154 (.load true 5 (.tmp 13))), (oP 155 (.bslice 5 [(.val (.int .i64 0)), (.val (.int .i64 0)), (.val (.int .i64 0)), (.val (.int .i64 0)), (.str [])] 1 [(0, (.tmp 154))])), (oP 156 (.app 5 48 (.tmp 153) (.tmp 155))), (mV 11 156)]) .skip))))
 a11_c3)))
def a11_c0 : ACode := (.cond (.tmp 85) (sr [(mV 88 9), (oP 89 (.faddr 0 (.tmp 2))), (oP 90 (.load false 1 (.tmp 89))), (oP 91 (.faddr 2 (.tmp 3))), (oP 92 (.load false 1 (.tmp 91))), (oP 93 (.bin .add (.tmp 90) (.tmp 92))), (oP 94 (.faddr 3 (.tmp 3))), (oP 95 (.load false 1 (.tmp 94))), (oP 96 (.build [(.val (.int .i64 0)), (.val (.int .i64 0)), (.val (.int .i64 0)), (.val (.int .i64 0)), (.str [])] [(0, (1, (.tmp 88))), (1, (1, (.tmp 93))), (4, (1, (.tmp 95)))])), (oP 10 (.box (.const (.agg [(.val (.int .i64 0)), (.val (.int .i64 0)), (.val (.int .i64 0)), (.val (.int .i64 0)), (.str [])])))), (oN (.store 5 (.tmp 10) (.tmp 96)))]
 (.seq (sr [(oP 97 (.faddr 0 (.tmp 3))), (oP 98 (.load false 1 (.tmp 97))), (oP 99 (.bin .eql (.tmp 98) (kI 4)))]
 (.cond (.tmp 99) (.region [(oP 100 (.faddr 2 (.tmp 3))), (oP 101 (.load false 1 (.tmp 100))), (oP 102 (.faddr 2 (.tmp 10))), (oN (.store 1 (.tmp 102) (.tmp 101)))]) .skip))
 a11_c1)) (sr [(oP 140 (.bin .eql (.tmp 18) (kI 5))), (mV 139 140)]
 (.cond (.tmp 139) (sr [(oP 11 (.mov (.const (.c (.ro true 5 [])))))]
 (.seq (sr [(oP 141 (.faddr 4 (.tmp 2))), (oP 142 (.load false 1 (.tmp 141))), (oP 143 (.len (.tmp 142))), (oP 144 (.mov (kI 0)))]
 (.block 1 (.loop a11_c4)))
 (.seq (sr [(mV 158 11), (oP 159 (.len (.tmp 158))), (oP 160 (.faddr 4 (.tmp 2))), (oP 161 (.load false 1 (.tmp 160))), (oP 162 (.len (.tmp 161))), (oP 163 (.bin .eql (.tmp 159) (.tmp 162)))]
 (.cond (.tmp 163) (sr [(mV 164 7), (oP 165 (.callv (.tmp 164) [(kI 5)])), (oP 166 (.ext (.tmp 165) 0)), (oP 167 (.ext (.tmp 165) 1)), (oP 168 (.ext (.tmp 165) 2)), (oN (.store 5 (.tmp 4) (.tmp 166))), (mV 5 167), (mV 6 168)]
 .ret) .skip))
 (sr [(mV 169 11), (oP 170 (.faddr 4 (.tmp 2))), (oN (.store 1 (.tmp 170) (.tmp 169)))]
 (sr [(oP 171 (.load true 5 (.tmp 2))), (oN (.store 5 (.tmp 4) (.tmp 171))), (oP 5 (.mov (kI 0))), (oP 6 (.mov (kI 0)))]
 .ret))))) (sr [(mV 19 7), (oP 20 (.callv (.tmp 19) [(kI 3)])), (oP 21 (.ext (.tmp 20) 0)), (oP 22 (.ext (.tmp 20) 1)), (oP 23 (.ext (.tmp 20) 2)), (oN (.store 5 (.tmp 4) (.tmp 21))), (mV 5 22), (mV 6 23)]
 .ret))))
def a11_c2 : ACode := (sr [(oP 172 (.faddr 1 (.tmp 2))), (oP 173 (.load false 1 (.tmp 172))), (oP 174 (.bin .add (.tmp 173) (kI 1))), (oP 175 (.faddr 1 (.tmp 2))), (oN (.store 1 (.tmp 175) (.tmp 174)))]
 (sr [(oP 176 (.load true 5 (.tmp 2))), (mV 177 9), (oN (.store 5 (.tmp 4) (.tmp 176))), (mV 5 177), (oP 6 (.mov (kI 0)))]
 .ret))
def a11 : AFunc := ⟨2, [(.cell true 5 4), (.tmp 5), (.tmp 6)], (sr [(oP 2 (.box (.tmp 0))), (oP 3 (.box (.tmp 1))), (oP 4 (.box (.const (.agg [(.val (.int .i64 0)), (.val (.int .i64 0)), (.ro true 7 []), (.ro true 7 []), (.ro true 5 [])])))), (oP 5 (.mov (kI 0))), (oP 6 (.mov (kI 0)))]
 (sr [(oP 7 (.mov (.const (.c (.fn (.func 44) [] [])))))]
 (sr [(oP 14 (.mkfn (.func 45) [] [(.tmp 2)])), (mV 8 14)]
 (sr [(oP 15 (.faddr 1 (.tmp 2))), (oP 16 (.load false 1 (.tmp 15))), (mV 9 16)]
 (.seq (sr [(oP 17 (.faddr 0 (.tmp 3))), (oP 18 (.load false 1 (.tmp 17)))]
 (.block 0 (sr [(oP 25 (.bin .eql (.tmp 18) (kI 1))), (mV 24 25)]
 (.cond (.tmp 24) (.seq (sr [(oP 26 (.faddr 1 (.tmp 3))), (oP 27 (.load false 1 (.tmp 26))), (oP 28 (.call 12 [(.tmp 27), (kI 1), (kI 4)])), (oP 29 (.un .not (.tmp 28)))]
 (.cond (.tmp 29) (sr [(mV 30 7), (oP 31 (.callv (.tmp 30) [(kI 1)])), (oP 32 (.ext (.tmp 31) 0)), (oP 33 (.ext (.tmp 31) 1)), (oP 34 (.ext (.tmp 31) 2)), (oN (.store 5 (.tmp 4) (.tmp 32))), (mV 5 33), (mV 6 34)]
 .ret) .skip))
 (.seq (sr [(mV 35 8), (oP 36 (.faddr 2 (.tmp 2))), (oP 37 (.load false 1 (.tmp 36))), (oP 38 (.len (.tmp 37))), (oP 39 (.callv (.tmp 35) [(.tmp 38)])), (oP 40 (.un .not (.tmp 39)))]
 (.cond (.tmp 40) (sr [(mV 41 7), (oP 42 (.callv (.tmp 41) [(kI 2)])), (oP 43 (.ext (.tmp 42) 0)), (oP 44 (.ext (.tmp 42) 1)), (oP 45 (.ext (.tmp 42) 2)), (oN (.store 5 (.tmp 4) (.tmp 43))), (mV 5 44), (mV 6 45)]
 .ret) .skip))
 (.drawn (.alt [((oP 46 (.faddr 2 (.tmp 2))), (0, 0)), ((oP 47 (.load false 1 (.tmp 46))), (0, 1)), ((mV 49 9), (0, 3)), ((oP 50 (.faddr 1 (.tmp 3))), (0, 4)), ((oP 51 (.load false 1 (.tmp 50))), (0, 5)), ((oP 52 (.faddr 3 (.tmp 3))), (0, 6)), ((oP 53 (.load false 1 (.tmp 52))), (0, 7)), ((oP 54 (.faddr 4 (.tmp 3))), (0, 8)), ((oP 55 (.load true 3 (.tmp 54))), (0, 9)), ((oP 56 (.build [(.val (.int .i64 0)), (.val (.int .i64 0)), (.val (.bool false)), (.str []), (.val (.int .i64 0)), (.val (.int .i64 0)), (.str [])] [(0, (1, (.tmp 49))), (1, (1, (.tmp 51))), (3, (1, (.tmp 53))), (4, (3, (.tmp 55)))])), (0, 10))] (.fin [((oP 48 (.call 46 [(.tmp 47)])), (1, 2)), ((oP 57 (.bslice 7 [(.val (.int .i64 0)), (.val (.int .i64 0)), (.val (.bool false)), (.str []), (.val (.int .i64 0)), (.val (.int .i64 0)), (.str [])] 1 [(0, (.tmp 56))])), (1, 11)), ((oP 58 (.app 7 72 (.tmp 48) (.tmp 57))), (2, 12)), ((oP 59 (.faddr 2 (.tmp 2))), (0, 13)), ((oN (.store 1 (.tmp 59) (.tmp 58))), (2, 14))]) (.fin [((oP 57 (.bslice 7 [(.val (.int .i64 0)), (.val (.int .i64 0)), (.val (.bool false)), (.str []), (.val (.int .i64 0)), (.val (.int .i64 0)), (.str [])] 1 [(0, (.tmp 56))])), (1, 11)), ((oP 48 (.call 46 [(.tmp 47)])), (1, 2)), ((oP 58 (.app 7 72 (.tmp 48) (.tmp 57))), (2, 12)), ((oP 59 (.faddr 2 (.tmp 2))), (0, 13)), ((oN (.store 1 (.tmp 59) (.tmp 58))), (2, 14))]))))) (sr [(oP 61 (.bin .eql (.tmp 18) (kI 2))), (mV 60 61)]
 (.cond (.tmp 60) (.seq (sr [(mV 62 8), (oP 63 (.faddr 3 (.tmp 2))), (oP 64 (.load false 1 (.tmp 63))), (oP 65 (.len (.tmp 64))), (oP 66 (.callv (.tmp 62) [(.tmp 65)])), (oP 67 (.un .not (.tmp 66)))]
 (.cond (.tmp 67) (sr [(mV 68 7), (oP 69 (.callv (.tmp 68) [(kI 2)])), (oP 70 (.ext (.tmp 69) 0)), (oP 71 (.ext (.tmp 69) 1)), (oP 72 (.ext (.tmp 69) 2)), (oN (.store 5 (.tmp 4) (.tmp 70))), (mV 5 71), (mV 6 72)]
 .ret) .skip))
 (.drawn (.alt [((oP 73 (.faddr 3 (.tmp 2))), (0, 0)), ((oP 74 (.load false 1 (.tmp 73))), (0, 1)), ((mV 76 9), (0, 3)), ((oP 77 (.faddr 3 (.tmp 3))), (0, 4)), ((oP 78 (.load false 1 (.tmp 77))), (0, 5)), ((oP 79 (.faddr 4 (.tmp 3))), (0, 6)), ((oP 80 (.load true 3 (.tmp 79))), (0, 7)), ((oP 81 (.build [(.val (.int .i64 0)), (.val (.int .i64 0)), (.val (.bool false)), (.str []), (.val (.int .i64 0)), (.val (.int .i64 0)), (.str [])] [(0, (1, (.tmp 76))), (2, (1, kT)), (3, (1, (.tmp 78))), (4, (3, (.tmp 80)))])), (0, 8))] (.fin [((oP 75 (.call 46 [(.tmp 74)])), (1, 2)), ((oP 82 (.bslice 7 [(.val (.int .i64 0)), (.val (.int .i64 0)), (.val (.bool false)), (.str []), (.val (.int .i64 0)), (.val (.int .i64 0)), (.str [])] 1 [(0, (.tmp 81))])), (1, 9)), ((oP 83 (.app 7 72 (.tmp 75) (.tmp 82))), (2, 10)), ((oP 84 (.faddr 3 (.tmp 2))), (0, 11)), ((oN (.store 1 (.tmp 84) (.tmp 83))), (2, 12))]) (.fin [((oP 82 (.bslice 7 [(.val (.int .i64 0)), (.val (.int .i64 0)), (.val (.bool false)), (.str []), (.val (.int .i64 0)), (.val (.int .i64 0)), (.str [])] 1 [(0, (.tmp 81))])), (1, 9)), ((oP 75 (.call 46 [(.tmp 74)])), (1, 2)), ((oP 83 (.app 7 72 (.tmp 75) (.tmp 82))), (2, 10)), ((oP 84 (.faddr 3 (.tmp 2))), (0, 11)), ((oN (.store 1 (.tmp 84) (.tmp 83))), (2, 12))])))) (.seq (sr [(oP 86 (.bin .eql (.tmp 18) (kI 3))), (mV 85 86)]
 (.cond (.tmp 85) .skip (.region [(oP 87 (.bin .eql (.tmp 18) (kI 4))), (mV 85 87)])))
 a11_c0)))))))
 a11_c2)))))⟩
theorem c11 : compFunc Try.prog 11 = some a11 := by kernel_rfl
def Z13 (r : (TJLoop × Int × Int)) : AV → Heap → Nat → Prop := fun v h' n' => v = (.tup [(.agg (e_TJLoop r.1)), (I r.2.1), (I r.2.2)]) ∧ (h' = e0) ∧ n' = 0
noncomputable def Z26 (q_ : TJLoop) (q2 : (List TJJob)) (q3 : (List TJJob)) (q4 : (List TJTimer)) : Option (TJLoop × Int × Int) :=
 some ((⟨q_.Now, (wi (q_.Next + 1)), q2, q3, q4⟩ : TJLoop), q_.Next, 0)
theorem Z27 {Γ : Glob} {q_ : TJLoop} {q2 : (List TJJob)} {q3 : (List TJJob)} {q4 : (List TJTimer)} {o : (TJLoop × Int × Int)} (h : Z26 q_ q2 q3 q4 = some o) :
  Sv Try.prog Γ 0 a11_c2 (Ends a11.results 0 (Z13 o)) ⟨(ue [(9, (I q_.Next)), (4, (.c (.ref 1 5 0 0))), (2, (.c (.ref 0 5 0 0)))]), (upd (upd e0 0 (some (.cells 5 [[cI q_.Now, cI q_.Next, .ro false 7 (q2.map e_TJJob), .ro false 7 (q3.map e_TJJob), .ro false 5 (q4.map e_TJTimer)]]))) 1 (some (.cells 5 [[cI 0, cI 0, .ro true 7 [], .ro true 7 [], .ro true 5 []]]))), 2⟩ := by
 unfold Z26 at h
 refine ssr <| un1 (v := (.c (.ref 0 5 0 1))) rfl <| un1 (v := (I q_.Next)) rfl <| un1 (v := (I (wi (q_.Next + 1)))) rfl <| un1 (v := (.c (.ref 0 5 0 1))) rfl <| un <| a2n (h' := upd _ 0 (some (.cells 5 [[cI q_.Now, cI (wi (q_.Next + 1)), .ro false 7 (q2.map e_TJJob), .ro false 7 (q3.map e_TJJob), .ro false 5 (q4.map e_TJTimer)]]))) (n' := 2) rfl rfl hcs <| dnil <| ssr <| un1 (v := (.agg [cI q_.Now, cI (wi (q_.Next + 1)), .ro false 7 (q2.map e_TJJob), .ro false 7 (q3.map e_TJJob), .ro false 5 (q4.map e_TJTimer)])) rfl <| un1 rfl <| un <| a2n (h' := upd _ 1 (some (.cells 5 [[cI q_.Now, cI (wi (q_.Next + 1)), .ro false 7 (q2.map e_TJJob), .ro false 7 (q3.map e_TJJob), .ro false 5 (q4.map e_TJTimer)]]))) (n' := 2) rfl rfl hcs <| un1 rfl <| un1 rfl <| dnil <| Sv.ret ?_
 exact rt0 h rfl rfl ⟨rfl, rfl, rfl⟩
abbrev Z7c (Γ : Glob) (o : (TJLoop × Int × Int)) : AExit → St → Prop := AThen (Sv Try.prog Γ 0 a11_c2 (Ends a11.results 0 (Z13 o))) (Ends a11.results 0 (Z13 o))
abbrev Z7d (Γ : Glob) (o : (TJLoop × Int × Int)) : AExit → St → Prop := ABlock 0 (Z7c Γ o)
noncomputable def Z1q (a_ : TJAsk) (q_ : TJLoop) (t2 : Int) : Option (TJLoop × Int × Int) :=
 if ((!(Z2 a_.N (wi (a_.Do - 3)) 1000000)) || (decide (1000000000 < (wi (q_.Now + a_.N))))) then
  some (((Z0 1).1), (Z0 1).2.1, (Z0 1).2.2)
 else
  letIn (Z4 (q_.Timers.length : Int) q_.Now q_.Next q_.Tasks q_.Smalls q_.Timers) fun r_6 : Bool =>
  if (!r_6) then
   some (((Z0 2).1), (Z0 2).2.1, (Z0 2).2.2)
  else
   (Z1d q_.Timers (⟨q_.Next, (wi (q_.Now + a_.N)), t2, 0, a_.Call⟩ : TJTimer)).bind fun r_7 =>
   Z26 q_ q_.Tasks q_.Smalls r_7
theorem Z4j {Γ : Glob} {a_ : TJAsk} {q_ : TJLoop} {t2 : Int} {o : (TJLoop × Int × Int)} (h : Z1q a_ q_ t2 = some o) :
  Sv Try.prog Γ 0 a11_c1 (Z7d Γ o) ⟨(ue [(10, (.c (.ref 3 5 0 0))), (9, (I q_.Next)), (8, (.c (.fn (.func 45) [] [.ref 0 5 0 0]))), (7, (.c (.fn (.func 44) [] []))), (4, (.c (.ref 2 5 0 0))), (3, (.c (.ref 1 7 0 0))), (2, (.c (.ref 0 5 0 0)))]), (upd (upd (upd (upd e0 0 (some (.cells 5 [(e_TJLoop q_)]))) 1 (some (.cells 7 [(e_TJAsk a_)]))) 2 (some (.cells 5 [[cI 0, cI 0, .ro true 7 [], .ro true 7 [], .ro true 5 []]]))) 3 (some (.cells 5 [[cI q_.Next, cI (wi (q_.Now + a_.N)), cI t2, cI 0, .str a_.Call]]))), 4⟩ := by
 unfold Z1q at h
 refine Sv.seq <| ssr <| un1 (v := (.c (.ref 1 7 0 2))) rfl <| un1 (v := (I a_.N)) rfl <| un1 (v := (.c (.ref 1 7 0 0))) rfl <| un1 (v := (I a_.Do)) rfl <| un1 (v := (I (wi (a_.Do - 3)))) rfl <| un <| ac_pure (Z12 (Γ := Γ) a_.N (wi (a_.Do - 3)) 1000000) rfl rfl rfl <| un1 (v := (B (!(Z2 a_.N (wi (a_.Do - 3)) 1000000)))) rfl <| un1 rfl ?_
 refine gjoin 7 (d := 117) (v := (B ((!(Z2 a_.N (wi (a_.Do - 3)) 1000000)) || (decide (1000000000 < (wi (q_.Now + a_.N))))))) (fun X hX => ?_) ?_
 ·refine split2 (fun hc7 => ?_) (fun hc7 => ?_)
  ·repeat (first | refine gu rfl ?_ | refine gs rfl rfl ?_)
   refine un1 (v := (B true)) rfl <| dnil ?_
   exact hX _ (.putEq (by rw [hc7]; rfl) (by repeat (first | exact .putEq (by rw [hc7]) (.refl _) | refine .skp ?_ rfl)))
  ·refine gt rfl <| a1 (v := (.c (.ref 0 5 0 0))) rfl <| gt rfl <| a1 (v := (I q_.Now)) rfl <| gt rfl <| a1 (v := (.c (.ref 1 7 0 2))) rfl <| gt rfl <| a1 (v := (I a_.N)) rfl <| gt rfl <| a1 (v := (I (wi (q_.Now + a_.N)))) rfl <| gt rfl <| a1 (v := (B (decide (1000000000 < (wi (q_.Now + a_.N)))))) rfl <| un1 (v := (B (decide (1000000000 < (wi (q_.Now + a_.N)))))) rfl <| dnil ?_
   exact hX _ (.putEq (by rw [hc7]; rfl) (by repeat (first | exact .putEq (by rw [hc7]) (.refl _) | refine .skp ?_ rfl)))
 refine dnil ?_
 refine Sv.cnd rfl h (fun h => ?_) fun h => ?_
 ·refine ssr <| un1 rfl <| un <| acv_gen (bs := []) («as» := [(I 1)]) (h2 := _) (h1 := e0) rfl (by kernel_rfl) (Z1b (Γ := Γ) 1) rfl (.cons (avAs_free rfl) .nil) (hsub_refl _) (.nil _) (fun _ => rfl) (by decide) (by decide) (.cons (avAs_free rfl) .nil) .nil ?_
  rintro _ _ _ hn ⟨rfl, rfl, rfl⟩
  refine ⟨.inl rfl, (rem [] _), fun hbd => (m3_rem (in_nil _) (.nil) hbd), (.tup [(.agg [cI (((Z0 1).1).Now), cI (((Z0 1).1).Next), .ro false 7 ((((Z0 1).1).Tasks).map e_TJJob), .ro false 7 ((((Z0 1).1).Smalls).map e_TJJob), .ro false 5 ((((Z0 1).1).Timers).map e_TJTimer)]), (I ((Z0 1).2.1)), (I ((Z0 1).2.2))]), 4, rfl, rfl, ?_⟩
  refine un1 (v := (.agg [cI (((Z0 1).1).Now), cI (((Z0 1).1).Next), .ro false 7 ((((Z0 1).1).Tasks).map e_TJJob), .ro false 7 ((((Z0 1).1).Smalls).map e_TJJob), .ro false 5 ((((Z0 1).1).Timers).map e_TJTimer)])) rfl <| un1 (v := (I ((Z0 1).2.1))) rfl <| un1 (v := (I ((Z0 1).2.2))) rfl <| un <| a2n (h' := upd _ 2 (some (.cells 5 [[cI (((Z0 1).1).Now), cI (((Z0 1).1).Next), .ro false 7 ((((Z0 1).1).Tasks).map e_TJJob), .ro false 7 ((((Z0 1).1).Smalls).map e_TJJob), .ro false 5 ((((Z0 1).1).Timers).map e_TJTimer)]]))) (n' := 4) rfl rfl hcs <| un1 rfl <| un1 rfl <| dnil <| Sv.ret ?_
  exact rt0 h rfl rfl ⟨rfl, rfl, rfl⟩
 ·refine Sv.skip <| Sv.seq <| ssr <| un1 rfl <| un1 (v := (.c (.ref 0 5 0 4))) rfl <| un1 (v := (.c (.ro false 5 (q_.Timers.map e_TJTimer)))) rfl <| un1 (v := (I (q_.Timers.length : Int))) (s_len (e := e_TJTimer) (xs := q_.Timers) rfl) ?_
  obtain ⟨r_6, hr_6⟩ : ∃ r_6 : Bool, r_6 = (Z4 (q_.Timers.length : Int) q_.Now q_.Next q_.Tasks q_.Smalls q_.Timers) := ⟨_, rfl⟩
  replace h := letAt hr_6 h
  have pr_6 := (Z2x (Γ := Γ) (q_.Timers.length : Int) q_.Now q_.Next q_.Tasks q_.Smalls q_.Timers)
  rw [← hr_6] at pr_6
  refine un <| acv_gen (bs := []) («as» := [(I (q_.Timers.length : Int)), (.c (.rop (e_TJLoop q_)))]) (h2 := (upd _ 0 none)) (h1 := e0) rfl (by kernel_rfl) pr_6 rfl (.cons (avAs_free rfl) (.cons (.c (ref_ro rfl (gone rfl) (.sm rfl (.sm rfl (.sm rfl (.sm rfl (.sm rfl .nil))))) rfl)) .nil)) (hsub_none (hsub_refl _)) (.nil _) (fun _ => rfl) (by decide) (by decide) (.cons (avAs_free rfl) (.cons (avAs_free rfl) .nil)) .nil ?_
  rintro _ _ _ hn ⟨rfl, rfl, rfl⟩
  refine ⟨.inr ⟨rfl, .nil⟩, (rem [] _), fun hbd => (m3_rem (in_nil _) (.nil) hbd), (B r_6), 4, rfl, rfl, ?_⟩
  refine un1 (v := (B (!r_6))) rfl <| dnil ?_
  refine Sv.cnd rfl h (fun h => ?_) fun h => ?_
  ·refine ssr <| un1 rfl <| un <| acv_gen (bs := []) («as» := [(I 2)]) (h2 := _) (h1 := e0) rfl (by kernel_rfl) (Z1b (Γ := Γ) 2) rfl (.cons (avAs_free rfl) .nil) (hsub_refl _) (.nil _) (fun _ => rfl) (by decide) (by decide) (.cons (avAs_free rfl) .nil) .nil ?_
   rintro _ _ _ hn ⟨rfl, rfl, rfl⟩
   refine ⟨.inl rfl, (rem [] _), fun hbd => (m3_rem (in_nil _) (.nil) hbd), (.tup [(.agg [cI (((Z0 2).1).Now), cI (((Z0 2).1).Next), .ro false 7 ((((Z0 2).1).Tasks).map e_TJJob), .ro false 7 ((((Z0 2).1).Smalls).map e_TJJob), .ro false 5 ((((Z0 2).1).Timers).map e_TJTimer)]), (I ((Z0 2).2.1)), (I ((Z0 2).2.2))]), 4, rfl, rfl, ?_⟩
   refine un1 (v := (.agg [cI (((Z0 2).1).Now), cI (((Z0 2).1).Next), .ro false 7 ((((Z0 2).1).Tasks).map e_TJJob), .ro false 7 ((((Z0 2).1).Smalls).map e_TJJob), .ro false 5 ((((Z0 2).1).Timers).map e_TJTimer)])) rfl <| un1 (v := (I ((Z0 2).2.1))) rfl <| un1 (v := (I ((Z0 2).2.2))) rfl <| un <| a2n (h' := upd _ 2 (some (.cells 5 [[cI (((Z0 2).1).Now), cI (((Z0 2).1).Next), .ro false 7 ((((Z0 2).1).Tasks).map e_TJJob), .ro false 7 ((((Z0 2).1).Smalls).map e_TJJob), .ro false 5 ((((Z0 2).1).Timers).map e_TJTimer)]]))) (n' := 4) rfl rfl hcs <| un1 rfl <| un1 rfl <| dnil <| Sv.ret ?_
   exact rt0 h rfl rfl ⟨rfl, rfl, rfl⟩
  ·refine Sv.skip <| srg <| un1 (v := (.c (.ref 0 5 0 4))) rfl <| un1 (v := (.c (.ro false 5 (q_.Timers.map e_TJTimer)))) rfl <| un1 (v := (.agg [cI q_.Next, cI (wi (q_.Now + a_.N)), cI t2, cI 0, .str a_.Call])) rfl ?_
   obtain ⟨r_7, hr5, h⟩ := bnd h
   refine un <| ac_gen (bs := []) («as» := [(.c (.ro false 5 (q_.Timers.map e_TJTimer))), (.agg [cI q_.Next, cI (wi (q_.Now + a_.N)), cI t2, cI 0, .str a_.Call])]) (h2 := _) (h1 := e0) (Z4i hr5) rfl (.cons (avAs_free rfl) (.cons (avAs_free rfl) .nil)) (hsub_refl _) (.nil _) (fun _ => rfl) (by decide) (by decide) (.cons (avAs_free rfl) (.cons (avAs_free rfl) .nil)) .nil ?_
   rintro _ _ _ hn ⟨z_2, hz_2, rfl, rfl, rfl⟩
   refine ⟨.inl rfl, (upd (rem [] _) 4 (lstB z_2 5 (r_7.map e_TJTimer))), fun hbd => (m3_cons (m3_row rfl (fr_map fun _ => rfl)) (m3_rem (in_nil _) (.cons (by decide) .nil) hbd)), (lstV z_2 4 5 r_7.length), 5, (by cases z_2 <;> rfl), rfl, ?_⟩
   refine un1 (v := (.c (.ref 0 5 0 4))) rfl <| un <| a2n (h' := upd _ 0 (some (.cells 5 [[cI q_.Now, cI q_.Next, .ro false 7 (q_.Tasks.map e_TJJob), .ro false 7 (q_.Smalls.map e_TJJob), lstC z_2 4 5 r_7.length]]))) (n' := 5) rfl rfl hcs <| dnil ?_
   exact Sv.weak (wcn [0, 2] rfl (.cf rfl rfl (.cr rfl rfl rfl (.cr rfl rfl rfl .nil))) (.box (by decide) rfl (blkAs_cells (.sm rfl (.sm rfl (.sm rfl (.sm rfl (.sm rfl .nil)))))) (.box (by decide) rfl (blkAs_cells (.sm rfl (.sm rfl (.sm rfl (.sm rfl (.cons (lstC_ro (es := List.map e_TJTimer r_7) rfl (List.length_map e_TJTimer).symm (map_nil_of hz_2) (fun b x hx => not_in (bs := [0, 2]) rfl b (((.cons (by decide) (.cons (by decide) .nil)) : HLt _ _) b x hx)) (fr_map fun _ => rfl)) .nil)))))) .nil))) (Z27 h)
abbrev Z4k (q_ : TJLoop) (a_ : TJAsk) (F_ : (List TJTimer) → Int → Option (TJLoop × Int × Int)) (o : (TJLoop × Int × Int)) (R_ : St → Prop) : Prop := ∀ (left : (List TJTimer)) (v144 : Int) (zleft : Bool) (_ : zleft = true → left = []), F_ left v144 = some o → ∀ s, Weak 0 s ⟨(ue [(144, (I v144)), (143, (I (q_.Timers.length : Int))), (142, (.c (.ro false 5 (q_.Timers.map e_TJTimer)))), (11, (lstV zleft 3 5 left.length)), (7, (.c (.fn (.func 44) [] []))), (4, (.c (.ref 2 5 0 0))), (3, (.c (.ref 1 7 0 0))), (2, (.c (.ref 0 5 0 0)))]), (upd (upd (upd (upd e0 0 (some (.cells 5 [(e_TJLoop q_)]))) 1 (some (.cells 7 [(e_TJAsk a_)]))) 2 (some (.cells 5 [[cI 0, cI 0, .ro true 7 [], .ro true 7 [], .ro true 5 []]]))) 3 (lstB zleft 5 (left.map e_TJTimer))), 4⟩ → R_ s
abbrev Z4l (q_ : TJLoop) (F_ : (List TJTimer) → Option (TJLoop × Int × Int)) (o : (TJLoop × Int × Int)) (R_ : St → Prop) : Prop := ∀ (left1 : (List TJTimer)) (zleft1 : Bool) (_ : zleft1 = true → left1 = []), F_ left1 = some o → ∀ s, Weak 0 s ⟨(ue [(11, (lstV zleft1 2 5 left1.length)), (7, (.c (.fn (.func 44) [] []))), (4, (.c (.ref 1 5 0 0))), (2, (.c (.ref 0 5 0 0)))]), (upd (upd (upd e0 0 (some (.cells 5 [(e_TJLoop q_)]))) 1 (some (.cells 5 [[cI 0, cI 0, .ro true 7 [], .ro true 7 [], .ro true 5 []]]))) 2 (lstB zleft1 5 (left1.map e_TJTimer))), 3⟩ → R_ s
noncomputable def Z28 (v144 : Int) (q_ : TJLoop) (a_ : TJAsk) (self : (List TJTimer) → Int → Option (TJLoop × Int × Int)) (K1_ : (List TJTimer) → Option (TJLoop × Int × Int)) (left2 : (List TJTimer)) : Option (TJLoop × Int × Int) :=
 self left2 (wi (v144 + 1))
theorem Z4m {Γ : Glob} {Q : AExit → St → Prop} {v144 : Int} {q_ : TJLoop} {a_ : TJAsk} {self : (List TJTimer) → Int → Option (TJLoop × Int × Int)} {K1_ : (List TJTimer) → Option (TJLoop × Int × Int)} {left2 : (List TJTimer)} {zleft2 : Bool} (hzleft2 : zleft2 = true → left2 = []) {o : (TJLoop × Int × Int)} (h : Z28 v144 q_ a_ self K1_ left2 = some o)
  (hself : Z4k q_ a_ self o (Q .normal))
  (hK1 : Z4l q_ K1_ o (Q (.exit 1)))
  (hr : ∀ s, Ends a11.results 0 (Z13 o) .ret s → Q .ret s) :
  Sv Try.prog Γ 0 a11_c3 Q ⟨(ue [(144, (I v144)), (143, (I (q_.Timers.length : Int))), (142, (.c (.ro false 5 (q_.Timers.map e_TJTimer)))), (11, (lstV zleft2 3 5 left2.length)), (7, (.c (.fn (.func 44) [] []))), (4, (.c (.ref 2 5 0 0))), (3, (.c (.ref 1 7 0 0))), (2, (.c (.ref 0 5 0 0)))]), (upd (upd (upd (upd e0 0 (some (.cells 5 [(e_TJLoop q_)]))) 1 (some (.cells 7 [(e_TJAsk a_)]))) 2 (some (.cells 5 [[cI 0, cI 0, .ro true 7 [], .ro true 7 [], .ro true 5 []]]))) 3 (lstB zleft2 5 (left2.map e_TJTimer))), 4⟩ := by
 unfold Z28 at h
 refine srg <| un1 (v := (I (wi (v144 + 1)))) rfl <| un1 rfl <| dnil ?_
 exact hself left2 (wi (v144 + 1)) zleft2 hzleft2 h _ (wcn [0, 1, 2, 3] rfl (.cf rfl rfl (.cf rfl rfl (.cf rfl rfl (.cons rfl (.c (lsr rfl rfl)) (.cf rfl rfl (.cr rfl rfl rfl (.cr rfl rfl rfl (.cr rfl rfl rfl .nil)))))))) (.row (by decide) rfl (fr_map fun _ => rfl) (.box (by decide) rfl (blkAs_cells (.sm rfl (.sm rfl (.sm rfl (.sm rfl (.sm rfl .nil)))))) (.box (by decide) rfl (blkAs_cells (.sm rfl (.sm rfl (.sm rfl (.sm rfl (.sm rfl (.sm rfl (.sm rfl .nil)))))))) (.box (by decide) rfl (blkAs_cells (.sm rfl (.sm rfl (.sm rfl (.sm rfl (.sm rfl .nil)))))) .nil)))))
abbrev Z4n (q_ : TJLoop) (a_ : TJAsk) (F_ : Nat → (List TJTimer) → Int → Option (TJLoop × Int × Int)) (o : (TJLoop × Int × Int)) : Nat → St → Prop := fun k s => ∃ (left : (List TJTimer)), ∃ (v144 : Int), ∃ (zleft : Bool), (zleft = true → left = []) ∧ F_ k left v144 = some o ∧ s = ⟨(ue [(144, (I v144)), (143, (I (q_.Timers.length : Int))), (142, (.c (.ro false 5 (q_.Timers.map e_TJTimer)))), (11, (lstV zleft 3 5 left.length)), (7, (.c (.fn (.func 44) [] []))), (4, (.c (.ref 2 5 0 0))), (3, (.c (.ref 1 7 0 0))), (2, (.c (.ref 0 5 0 0)))]), (upd (upd (upd (upd e0 0 (some (.cells 5 [(e_TJLoop q_)]))) 1 (some (.cells 7 [(e_TJAsk a_)]))) 2 (some (.cells 5 [[cI 0, cI 0, .ro true 7 [], .ro true 7 [], .ro true 5 []]]))) 3 (lstB zleft 5 (left.map e_TJTimer))), 4⟩
noncomputable def Ze (q_ : TJLoop) (a_ : TJAsk) (K1_ : (List TJTimer) → Option (TJLoop × Int × Int)) : Nat → (List TJTimer) → Int → Option (TJLoop × Int × Int)
 | 0, _, _ => none
 | k + 1, left, v144 =>
  if decide (v144 < (q_.Timers.length : Int)) then
   (at? q_.Timers v144).bind fun x_ =>
   if (!decide (x_.ID = a_.N)) then
    (app? 48 left [x_]).bind fun r_8 =>
    Z28 v144 q_ a_ (Ze q_ a_ K1_ k) K1_ r_8
   else
    Z28 v144 q_ a_ (Ze q_ a_ K1_ k) K1_ left
  else
   K1_ left
theorem Z7e {Γ : Glob} {Q : AExit → St → Prop} {q_ : TJLoop} {a_ : TJAsk} {K1_ : (List TJTimer) → Option (TJLoop × Int × Int)} {k : Nat} {left : (List TJTimer)} {v144 : Int} {zleft : Bool} (hzleft : zleft = true → left = []) {o : (TJLoop × Int × Int)} (h : Ze q_ a_ K1_ k left v144 = some o)
  (hK1 : Z4l q_ K1_ o (Q (.exit 1)))
  (hr : ∀ s, Ends a11.results 0 (Z13 o) .ret s → Q .ret s) :
  Sv Try.prog Γ 0 (.loop a11_c4) Q ⟨(ue [(144, (I v144)), (143, (I (q_.Timers.length : Int))), (142, (.c (.ro false 5 (q_.Timers.map e_TJTimer)))), (11, (lstV zleft 3 5 left.length)), (7, (.c (.fn (.func 44) [] []))), (4, (.c (.ref 2 5 0 0))), (3, (.c (.ref 1 7 0 0))), (2, (.c (.ref 0 5 0 0)))]), (upd (upd (upd (upd e0 0 (some (.cells 5 [(e_TJLoop q_)]))) 1 (some (.cells 7 [(e_TJAsk a_)]))) 2 (some (.cells 5 [[cI 0, cI 0, .ro true 7 [], .ro true 7 [], .ro true 5 []]]))) 3 (lstB zleft 5 (left.map e_TJTimer))), 4⟩ := by
 refine Sv.loop (I := Z4n q_ a_ (Ze q_ a_ K1_) o) (fun k s hI => ?_) ⟨left, v144, zleft, hzleft, h, rfl⟩
 clear h
 clear hzleft zleft v144 left
 obtain ⟨left, v144, zleft, hzleft, h, rfl⟩ := hI
 cases k with
 | zero => cases h
 | succ k =>
 rw [Ze] at h
 have hself : Z4k q_ a_ (Ze q_ a_ K1_ k) o (rnd 0 (Z4n q_ a_ (Ze q_ a_ K1_) o) k Q) := fun left v144 zleft hzleft h s hw => ⟨_, k, hw, Nat.lt_succ_self k, left, v144, zleft, hzleft, h, rfl⟩
 refine ssr <| un1 (v := (B (decide (v144 < (q_.Timers.length : Int))))) rfl <| dnil <| Sv.seq ?_
 refine Sv.cnd rfl h (fun h => ?_) fun h => ?_
 ·refine Sv.skip <| Sv.seq <| Sv.block <| ssr ?_
  obtain ⟨x_, hx1, h⟩ := bnd h
  refine un1 (v := (.c (.rop (e_TJTimer x_)))) (s_iaddr (e := e_TJTimer) (xs := q_.Timers) rfl rfl hx1) <| un1 (v := (.agg (e_TJTimer x_))) rfl <| un <| a2v (v := (.c (.ref 4 5 0 0))) (h' := upd _ 4 (some (.cells 5 [[cI 0, cI 0, cI 0, cI 0, .str []]]))) (n' := 5) rfl rfl hcs <| un <| a2n (h' := upd _ 4 (some (.cells 5 [(e_TJTimer x_)]))) (n' := 5) rfl rfl hcs <| dnil <| ssr <| un1 (v := (.c (.ref 4 5 0 0))) rfl <| un1 (v := (I x_.ID)) rfl <| un1 (v := (.c (.ref 1 7 0 2))) rfl <| un1 (v := (I a_.N)) rfl <| un1 (v := (B (!decide (x_.ID = a_.N)))) rfl <| dnil ?_
  refine Sv.cnd rfl h (fun h => ?_) fun h => ?_
  ·refine srg <| un1 rfl <| un1 (v := (.agg (e_TJTimer x_))) rfl <| un <| a2v (v := (lstV false 5 5 [x_].length)) (h' := upd _ 5 (lstB false 5 ([x_].map e_TJTimer))) (n' := 6) rfl rfl hcs ?_
   obtain ⟨r_8, hr6, h⟩ := bnd h
   have hz3 : (zleft && [x_].isEmpty) = true → r_8 = [] := app_nil (z := zleft) (ys := [x_]) hzleft hr6
   refine un <| a2v rfl (s_app (xs := left) (ys := [x_]) (e := e_TJTimer) (z := zleft) (b := 3) rfl rfl hzleft rfl rfl (slc_lst rfl (List.length_map _).symm (map_nil_of hcs)) hr6) hcs <| un1 rfl <| dnil ?_
   exact Sv.weak (wcn [0, 1, 2, 6] rfl (.cf rfl rfl (.cf rfl rfl (.cf rfl rfl (.cons rfl (.c (lsr rfl rfl)) (.cf rfl rfl (.cr rfl rfl rfl (.cr rfl rfl rfl (.cr rfl rfl rfl .nil)))))))) (.row (by decide) rfl (fr_map fun _ => rfl) (.box (by decide) rfl (blkAs_cells (.sm rfl (.sm rfl (.sm rfl (.sm rfl (.sm rfl .nil)))))) (.box (by decide) rfl (blkAs_cells (.sm rfl (.sm rfl (.sm rfl (.sm rfl (.sm rfl (.sm rfl (.sm rfl .nil)))))))) (.box (by decide) rfl (blkAs_cells (.sm rfl (.sm rfl (.sm rfl (.sm rfl (.sm rfl .nil)))))) .nil))))) (Z4m hz3 h hself hK1 hr)
  ·refine Sv.skip ?_
   exact Sv.weak (wcn [0, 1, 2, 3] rfl (.cf rfl rfl (.cf rfl rfl (.cf rfl rfl (.cons rfl (.c (lsr rfl rfl)) (.cf rfl rfl (.cr rfl rfl rfl (.cr rfl rfl rfl (.cr rfl rfl rfl .nil)))))))) (.row (by decide) rfl (fr_map fun _ => rfl) (.box (by decide) rfl (blkAs_cells (.sm rfl (.sm rfl (.sm rfl (.sm rfl (.sm rfl .nil)))))) (.box (by decide) rfl (blkAs_cells (.sm rfl (.sm rfl (.sm rfl (.sm rfl (.sm rfl (.sm rfl (.sm rfl .nil)))))))) (.box (by decide) rfl (blkAs_cells (.sm rfl (.sm rfl (.sm rfl (.sm rfl (.sm rfl .nil)))))) .nil))))) (Z4m hzleft h hself hK1 hr)
 ·refine Sv.exit ?_
  exact hK1 left zleft hzleft h _ (wcn [0, 2, 3] rfl (.cons rfl (.c (lsr rfl rfl)) (.cf rfl rfl (.cr rfl rfl rfl (.cr rfl rfl rfl .nil)))) (.row (by decide) rfl (fr_map fun _ => rfl) (.box (by decide) rfl (blkAs_cells (.sm rfl (.sm rfl (.sm rfl (.sm rfl (.sm rfl .nil)))))) (.box (by decide) rfl (blkAs_cells (.sm rfl (.sm rfl (.sm rfl (.sm rfl (.sm rfl .nil)))))) .nil))))
abbrev Z7f (Γ : Glob) (o : (TJLoop × Int × Int)) : AExit → St → Prop := AThen (Sv Try.prog Γ 0 a11_c2 (Ends a11.results 0 (Z13 o))) (Ends a11.results 0 (Z13 o))
abbrev Z7g (Γ : Glob) (o : (TJLoop × Int × Int)) : AExit → St → Prop := ABlock 0 (Z7f Γ o)
noncomputable def Z14 (a_ : TJAsk) (q_ : TJLoop) (v85 : Bool) : Option (TJLoop × Int × Int) :=
 if v85 then
  if decide (a_.Do = 4) then
   Z1q a_ q_ a_.N
  else
   Z1q a_ q_ 0
 else
  if decide (a_.Do = 5) then
   lim fun kk => Ze q_ a_ (fun (left1 : (List TJTimer)) => 
     if decide ((left1.length : Int) = (q_.Timers.length : Int)) then
      some (((Z0 5).1), (Z0 5).2.1, (Z0 5).2.2)
     else
      some ((⟨q_.Now, q_.Next, q_.Tasks, q_.Smalls, left1⟩ : TJLoop), 0, 0)) kk ([] : List TJTimer) 0
  else
   some (((Z0 3).1), (Z0 3).2.1, (Z0 3).2.2)
theorem Z4o {Γ : Glob} {a_ : TJAsk} {q_ : TJLoop} {v85 : Bool} {o : (TJLoop × Int × Int)} (h : Z14 a_ q_ v85 = some o) :
  Sv Try.prog Γ 0 a11_c0 (Z7g Γ o) ⟨(ue [(85, (B v85)), (18, (I a_.Do)), (9, (I q_.Next)), (8, (.c (.fn (.func 45) [] [.ref 0 5 0 0]))), (7, (.c (.fn (.func 44) [] []))), (4, (.c (.ref 2 5 0 0))), (3, (.c (.ref 1 7 0 0))), (2, (.c (.ref 0 5 0 0)))]), (upd (upd (upd e0 0 (some (.cells 5 [(e_TJLoop q_)]))) 1 (some (.cells 7 [(e_TJAsk a_)]))) 2 (some (.cells 5 [[cI 0, cI 0, .ro true 7 [], .ro true 7 [], .ro true 5 []]]))), 3⟩ := by
 unfold Z14 at h
 refine Sv.cnd rfl h (fun h => ?_) fun h => ?_
 ·refine ssr <| un1 rfl <| un1 (v := (.c (.ref 0 5 0 0))) rfl <| un1 (v := (I q_.Now)) rfl <| un1 (v := (.c (.ref 1 7 0 2))) rfl <| un1 (v := (I a_.N)) rfl <| un1 (v := (I (wi (q_.Now + a_.N)))) rfl <| un1 (v := (.c (.ref 1 7 0 3))) rfl <| un1 (v := (S a_.Call)) rfl <| un1 (v := (.agg [cI q_.Next, cI (wi (q_.Now + a_.N)), cI 0, cI 0, .str a_.Call])) rfl <| un <| a2v (v := (.c (.ref 3 5 0 0))) (h' := upd _ 3 (some (.cells 5 [[cI 0, cI 0, cI 0, cI 0, .str []]]))) (n' := 4) rfl rfl hcs <| un <| a2n (h' := upd _ 3 (some (.cells 5 [[cI q_.Next, cI (wi (q_.Now + a_.N)), cI 0, cI 0, .str a_.Call]]))) (n' := 4) rfl rfl hcs <| dnil <| Sv.seq <| ssr <| un1 (v := (.c (.ref 1 7 0 0))) rfl <| un1 (v := (I a_.Do)) rfl <| un1 (v := (B (decide (a_.Do = 4)))) rfl <| dnil ?_
  refine Sv.cnd rfl h (fun h => ?_) fun h => ?_
  ·refine srg <| un1 (v := (.c (.ref 1 7 0 2))) rfl <| un1 (v := (I a_.N)) rfl <| un1 (v := (.c (.ref 3 5 0 2))) rfl <| un <| a2n (h' := upd _ 3 (some (.cells 5 [[cI q_.Next, cI (wi (q_.Now + a_.N)), cI a_.N, cI 0, .str a_.Call]]))) (n' := 4) rfl rfl hcs <| dnil ?_
   exact Sv.weak (wcn [0, 1, 2, 3] rfl (.cr rfl rfl rfl (.cf rfl rfl (.cons rfl (.c (fn_as .nil (.cons (.ref rfl (by decide)) .nil))) (.cf rfl rfl (.cr rfl rfl rfl (.cr rfl rfl rfl (.cr rfl rfl rfl .nil))))))) (.box (by decide) rfl (blkAs_cells (.sm rfl (.sm rfl (.sm rfl (.sm rfl (.sm rfl .nil)))))) (.box (by decide) rfl (blkAs_cells (.sm rfl (.sm rfl (.sm rfl (.sm rfl (.sm rfl .nil)))))) (.box (by decide) rfl (blkAs_cells (.sm rfl (.sm rfl (.sm rfl (.sm rfl (.sm rfl (.sm rfl (.sm rfl .nil)))))))) (.box (by decide) rfl (blkAs_cells (.sm rfl (.sm rfl (.sm rfl (.sm rfl (.sm rfl .nil)))))) .nil))))) (Z4j h)
  ·refine Sv.skip ?_
   exact Sv.weak (wcn [0, 1, 2, 3] rfl (.cr rfl rfl rfl (.cf rfl rfl (.cons rfl (.c (fn_as .nil (.cons (.ref rfl (by decide)) .nil))) (.cf rfl rfl (.cr rfl rfl rfl (.cr rfl rfl rfl (.cr rfl rfl rfl .nil))))))) (.box (by decide) rfl (blkAs_cells (.sm rfl (.sm rfl (.sm rfl (.sm rfl (.sm rfl .nil)))))) (.box (by decide) rfl (blkAs_cells (.sm rfl (.sm rfl (.sm rfl (.sm rfl (.sm rfl .nil)))))) (.box (by decide) rfl (blkAs_cells (.sm rfl (.sm rfl (.sm rfl (.sm rfl (.sm rfl (.sm rfl (.sm rfl .nil)))))))) (.box (by decide) rfl (blkAs_cells (.sm rfl (.sm rfl (.sm rfl (.sm rfl (.sm rfl .nil)))))) .nil))))) (Z4j h)
 ·refine ssr <| un1 (v := (B (decide (a_.Do = 5)))) rfl <| un1 rfl <| dnil ?_
  refine Sv.cnd rfl h (fun h => ?_) fun h => ?_
  ·refine ssr <| un1 rfl <| dnil <| Sv.seq <| ssr <| un1 (v := (.c (.ref 0 5 0 4))) rfl <| un1 (v := (.c (.ro false 5 (q_.Timers.map e_TJTimer)))) rfl <| un1 (v := (I (q_.Timers.length : Int))) (s_len (e := e_TJTimer) (xs := q_.Timers) rfl) <| un1 rfl <| dnil <| Sv.block ?_
   obtain ⟨kk, h⟩ := lim_some h
   refine Sv.weak (wcn [0, 1, 2, 1000] rfl (.cf rfl rfl (.cf rfl rfl (.cf rfl rfl (.cons rfl (.c (.same rfl)) (.cf rfl rfl (.cr rfl rfl rfl (.cr rfl rfl rfl (.cr rfl rfl rfl .nil)))))))) (.non (by decide) (.box (by decide) rfl (blkAs_cells (.sm rfl (.sm rfl (.sm rfl (.sm rfl (.sm rfl .nil)))))) (.box (by decide) rfl (blkAs_cells (.sm rfl (.sm rfl (.sm rfl (.sm rfl (.sm rfl (.sm rfl (.sm rfl .nil)))))))) (.box (by decide) rfl (blkAs_cells (.sm rfl (.sm rfl (.sm rfl (.sm rfl (.sm rfl .nil)))))) .nil))))) (Z7e (fun _ => rfl) h ?_ (fun s hs => hs))
   ·intro left1 zleft1 hzleft1 h _ hw1
    refine Sv.weak hw1 <| Sv.seq <| ssr <| un1 rfl <| un1 (v := (I (left1.length : Int))) (s_lenL rfl (len_nil_of hzleft1)) <| un1 (v := (.c (.ref 0 5 0 4))) rfl <| un1 (v := (.c (.ro false 5 (q_.Timers.map e_TJTimer)))) rfl <| un1 (v := (I (q_.Timers.length : Int))) (s_len (e := e_TJTimer) (xs := q_.Timers) rfl) <| un1 (v := (B (decide ((left1.length : Int) = (q_.Timers.length : Int))))) rfl <| dnil ?_
    refine Sv.cnd rfl h (fun h => ?_) fun h => ?_
    ·refine ssr <| un1 rfl <| un <| acv_gen (bs := []) («as» := [(I 5)]) (h2 := _) (h1 := e0) rfl (by kernel_rfl) (Z1b (Γ := Γ) 5) rfl (.cons (avAs_free rfl) .nil) (hsub_refl _) (.nil _) (fun _ => rfl) (by decide) (by decide) (.cons (avAs_free rfl) .nil) .nil ?_
     rintro _ _ _ hn ⟨rfl, rfl, rfl⟩
     refine ⟨.inl rfl, (rem [] _), fun hbd => (m3_rem (in_nil _) (.nil) hbd), (.tup [(.agg [cI (((Z0 5).1).Now), cI (((Z0 5).1).Next), .ro false 7 ((((Z0 5).1).Tasks).map e_TJJob), .ro false 7 ((((Z0 5).1).Smalls).map e_TJJob), .ro false 5 ((((Z0 5).1).Timers).map e_TJTimer)]), (I ((Z0 5).2.1)), (I ((Z0 5).2.2))]), 3, rfl, rfl, ?_⟩
     refine un1 (v := (.agg [cI (((Z0 5).1).Now), cI (((Z0 5).1).Next), .ro false 7 ((((Z0 5).1).Tasks).map e_TJJob), .ro false 7 ((((Z0 5).1).Smalls).map e_TJJob), .ro false 5 ((((Z0 5).1).Timers).map e_TJTimer)])) rfl <| un1 (v := (I ((Z0 5).2.1))) rfl <| un1 (v := (I ((Z0 5).2.2))) rfl <| un <| a2n (h' := upd _ 1 (some (.cells 5 [[cI (((Z0 5).1).Now), cI (((Z0 5).1).Next), .ro false 7 ((((Z0 5).1).Tasks).map e_TJJob), .ro false 7 ((((Z0 5).1).Smalls).map e_TJJob), .ro false 5 ((((Z0 5).1).Timers).map e_TJTimer)]]))) (n' := 3) rfl rfl hcs <| un1 rfl <| un1 rfl <| dnil <| Sv.ret ?_
     exact rt0 h rfl rfl ⟨rfl, rfl, rfl⟩
    ·refine Sv.skip <| ssr <| un1 rfl <| un1 (v := (.c (.ref 0 5 0 4))) rfl <| un <| a2n (h' := upd _ 0 (some (.cells 5 [[cI q_.Now, cI q_.Next, .ro false 7 (q_.Tasks.map e_TJJob), .ro false 7 (q_.Smalls.map e_TJJob), lstC zleft1 2 5 left1.length]]))) (n' := 3) rfl rfl hcs <| dnil <| ssr <| un1 (v := (.agg [cI q_.Now, cI q_.Next, .ro false 7 (q_.Tasks.map e_TJJob), .ro false 7 (q_.Smalls.map e_TJJob), lstC zleft1 2 5 left1.length])) rfl <| un <| a2n (h' := upd _ 1 (some (.cells 5 [[cI q_.Now, cI q_.Next, .ro false 7 (q_.Tasks.map e_TJJob), .ro false 7 (q_.Smalls.map e_TJJob), lstC zleft1 2 5 left1.length]]))) (n' := 3) rfl rfl hcs <| un1 rfl <| un1 rfl <| dnil <| Sv.ret ?_
     replace h := Option.some.inj h
     subst h
     exact ⟨_, .refl _, _, rfl, ⟨upd e0 0 (some (.tup [(.agg [cI q_.Now, cI q_.Next, .ro false 7 (q_.Tasks.map e_TJJob), .ro false 7 (q_.Smalls.map e_TJJob), .ro false 5 (left1.map e_TJTimer)]), (I 0), (I 0)])), e0, 0⟩, (.tup [(.agg [cI q_.Now, cI q_.Next, .ro false 7 (q_.Tasks.map e_TJJob), .ro false 7 (q_.Smalls.map e_TJJob), .ro false 5 (left1.map e_TJTimer)]), (I 0), (I 0)]), weak_canon [] rfl ndl nll nlz (.cons rfl (avAs_tup (.cons (avAs_agg (.sm rfl (.sm rfl (.sm rfl (.sm rfl (.cons (lstC_ro (es := List.map e_TJTimer left1) rfl (List.length_map e_TJTimer).symm (map_nil_of hzleft1) (fun b x hx => not_in (bs := []) rfl b (((.nil) : HLt _ _) b x hx)) (fr_map fun _ => rfl)) .nil)))))) (.cons (avAs_free rfl) (.cons (avAs_free rfl) .nil)))) .nil) .nil, rfl, rfl, rfl, rfl⟩
  ·refine ssr <| un1 rfl <| un <| acv_gen (bs := []) («as» := [(I 3)]) (h2 := _) (h1 := e0) rfl (by kernel_rfl) (Z1b (Γ := Γ) 3) rfl (.cons (avAs_free rfl) .nil) (hsub_refl _) (.nil _) (fun _ => rfl) (by decide) (by decide) (.cons (avAs_free rfl) .nil) .nil ?_
   rintro _ _ _ hn ⟨rfl, rfl, rfl⟩
   refine ⟨.inl rfl, (rem [] _), fun hbd => (m3_rem (in_nil _) (.nil) hbd), (.tup [(.agg [cI (((Z0 3).1).Now), cI (((Z0 3).1).Next), .ro false 7 ((((Z0 3).1).Tasks).map e_TJJob), .ro false 7 ((((Z0 3).1).Smalls).map e_TJJob), .ro false 5 ((((Z0 3).1).Timers).map e_TJTimer)]), (I ((Z0 3).2.1)), (I ((Z0 3).2.2))]), 3, rfl, rfl, ?_⟩
   refine un1 (v := (.agg [cI (((Z0 3).1).Now), cI (((Z0 3).1).Next), .ro false 7 ((((Z0 3).1).Tasks).map e_TJJob), .ro false 7 ((((Z0 3).1).Smalls).map e_TJJob), .ro false 5 ((((Z0 3).1).Timers).map e_TJTimer)])) rfl <| un1 (v := (I ((Z0 3).2.1))) rfl <| un1 (v := (I ((Z0 3).2.2))) rfl <| un <| a2n (h' := upd _ 2 (some (.cells 5 [[cI (((Z0 3).1).Now), cI (((Z0 3).1).Next), .ro false 7 ((((Z0 3).1).Tasks).map e_TJJob), .ro false 7 ((((Z0 3).1).Smalls).map e_TJJob), .ro false 5 ((((Z0 3).1).Timers).map e_TJTimer)]]))) (n' := 3) rfl rfl hcs <| un1 rfl <| un1 rfl <| dnil <| Sv.ret ?_
   exact rt0 h rfl rfl ⟨rfl, rfl, rfl⟩
/-- clerestory/clerestoryref4.LoopAsked -/
noncomputable def Z5 (q_ : TJLoop) (a_ : TJAsk) : Option (TJLoop × Int × Int) :=
 if decide (a_.Do = 1) then
  if (!(Z2 a_.Source 1 4)) then
   some (((Z0 1).1), (Z0 1).2.1, (Z0 1).2.2)
  else
   letIn (Z4 (q_.Tasks.length : Int) q_.Now q_.Next q_.Tasks q_.Smalls q_.Timers) fun r_ : Bool =>
   if (!r_) then
    some (((Z0 2).1), (Z0 2).2.1, (Z0 2).2.2)
   else
    (Z10 q_.Tasks).bind fun r_1 =>
    (app? 72 r_1 [(⟨q_.Next, a_.Source, false, a_.Call, a_.Arg⟩ : TJJob)]).bind fun r_2 =>
    Z26 q_ r_2 q_.Smalls q_.Timers
 else
  if decide (a_.Do = 2) then
   letIn (Z4 (q_.Smalls.length : Int) q_.Now q_.Next q_.Tasks q_.Smalls q_.Timers) fun r_3 : Bool =>
   if (!r_3) then
    some (((Z0 2).1), (Z0 2).2.1, (Z0 2).2.2)
   else
    (Z10 q_.Smalls).bind fun r_4 =>
    (app? 72 r_4 [(⟨q_.Next, 0, true, a_.Call, a_.Arg⟩ : TJJob)]).bind fun r_5 =>
    Z26 q_ q_.Tasks r_5 q_.Timers
  else
   if decide (a_.Do = 3) then
    Z14 a_ q_ (decide (a_.Do = 3))
   else
    Z14 a_ q_ (decide (a_.Do = 4))
theorem Z7h {Γ : Glob} {q_ : TJLoop} {a_ : TJAsk} {r : (TJLoop × Int × Int)} (h : Z5 q_ a_ = some r) : CPure Try.prog Γ 11 [(.agg (e_TJLoop q_)), (.agg (e_TJAsk a_))] (.tup [(.agg (e_TJLoop r.1)), (I r.2.1), (I r.2.2)]) := by
 refine acalls_of_sv hmix c11 (R := Z13 r) ?_
 unfold Z5 at h
 refine ssr <| un <| a2v (v := (.c (.ref 0 5 0 0))) (h' := upd _ 0 (some (.cells 5 [(e_TJLoop q_)]))) (n' := 1) rfl rfl hcs <| un <| a2v (v := (.c (.ref 1 7 0 0))) (h' := upd _ 1 (some (.cells 7 [(e_TJAsk a_)]))) (n' := 2) rfl rfl hcs <| un <| a2v (v := (.c (.ref 2 5 0 0))) (h' := upd _ 2 (some (.cells 5 [[cI 0, cI 0, .ro true 7 [], .ro true 7 [], .ro true 5 []]]))) (n' := 3) rfl rfl hcs <| un1 rfl <| un1 rfl <| dnil <| ssr <| un1 rfl <| dnil <| ssr <| un1 (v := (.c (.fn (.func 45) [] [.ref 0 5 0 0]))) rfl <| un1 rfl <| dnil <| ssr <| un1 (v := (.c (.ref 0 5 0 1))) rfl <| un1 (v := (I q_.Next)) rfl <| un1 rfl <| dnil <| Sv.seq <| ssr <| un1 (v := (.c (.ref 1 7 0 0))) rfl <| un1 (v := (I a_.Do)) rfl <| dnil <| Sv.block <| ssr <| un1 (v := (B (decide (a_.Do = 1)))) rfl <| un1 rfl <| dnil ?_
 refine Sv.cnd rfl h (fun h => ?_) fun h => ?_
 ·refine Sv.seq <| ssr <| un1 (v := (.c (.ref 1 7 0 1))) rfl <| un1 (v := (I a_.Source)) rfl <| un <| ac_pure (Z12 (Γ := Γ) a_.Source 1 4) rfl rfl rfl <| un1 (v := (B (!(Z2 a_.Source 1 4)))) rfl <| dnil ?_
  refine Sv.cnd rfl h (fun h => ?_) fun h => ?_
  ·refine ssr <| un1 rfl <| un <| acv_gen (bs := []) («as» := [(I 1)]) (h2 := _) (h1 := e0) rfl (by kernel_rfl) (Z1b (Γ := Γ) 1) rfl (.cons (avAs_free rfl) .nil) (hsub_refl _) (.nil _) (fun _ => rfl) (by decide) (by decide) (.cons (avAs_free rfl) .nil) .nil ?_
   rintro _ _ _ hn ⟨rfl, rfl, rfl⟩
   refine ⟨.inl rfl, (rem [] _), fun hbd => (m3_rem (in_nil _) (.nil) hbd), (.tup [(.agg [cI (((Z0 1).1).Now), cI (((Z0 1).1).Next), .ro false 7 ((((Z0 1).1).Tasks).map e_TJJob), .ro false 7 ((((Z0 1).1).Smalls).map e_TJJob), .ro false 5 ((((Z0 1).1).Timers).map e_TJTimer)]), (I ((Z0 1).2.1)), (I ((Z0 1).2.2))]), 3, rfl, rfl, ?_⟩
   refine un1 (v := (.agg [cI (((Z0 1).1).Now), cI (((Z0 1).1).Next), .ro false 7 ((((Z0 1).1).Tasks).map e_TJJob), .ro false 7 ((((Z0 1).1).Smalls).map e_TJJob), .ro false 5 ((((Z0 1).1).Timers).map e_TJTimer)])) rfl <| un1 (v := (I ((Z0 1).2.1))) rfl <| un1 (v := (I ((Z0 1).2.2))) rfl <| un <| a2n (h' := upd _ 2 (some (.cells 5 [[cI (((Z0 1).1).Now), cI (((Z0 1).1).Next), .ro false 7 ((((Z0 1).1).Tasks).map e_TJJob), .ro false 7 ((((Z0 1).1).Smalls).map e_TJJob), .ro false 5 ((((Z0 1).1).Timers).map e_TJTimer)]]))) (n' := 3) rfl rfl hcs <| un1 rfl <| un1 rfl <| dnil <| Sv.ret ?_
   exact rt0 h rfl rfl ⟨rfl, rfl, rfl⟩
  ·refine Sv.skip <| Sv.seq <| ssr <| un1 rfl <| un1 (v := (.c (.ref 0 5 0 2))) rfl <| un1 (v := (.c (.ro false 7 (q_.Tasks.map e_TJJob)))) rfl <| un1 (v := (I (q_.Tasks.length : Int))) (s_len (e := e_TJJob) (xs := q_.Tasks) rfl) ?_
   obtain ⟨r_, hr_⟩ : ∃ r_ : Bool, r_ = (Z4 (q_.Tasks.length : Int) q_.Now q_.Next q_.Tasks q_.Smalls q_.Timers) := ⟨_, rfl⟩
   replace h := letAt hr_ h
   have pr_ := (Z2x (Γ := Γ) (q_.Tasks.length : Int) q_.Now q_.Next q_.Tasks q_.Smalls q_.Timers)
   rw [← hr_] at pr_
   refine un <| acv_gen (bs := []) («as» := [(I (q_.Tasks.length : Int)), (.c (.rop (e_TJLoop q_)))]) (h2 := (upd _ 0 none)) (h1 := e0) rfl (by kernel_rfl) pr_ rfl (.cons (avAs_free rfl) (.cons (.c (ref_ro rfl (gone rfl) (.sm rfl (.sm rfl (.sm rfl (.sm rfl (.sm rfl .nil))))) rfl)) .nil)) (hsub_none (hsub_refl _)) (.nil _) (fun _ => rfl) (by decide) (by decide) (.cons (avAs_free rfl) (.cons (avAs_free rfl) .nil)) .nil ?_
   rintro _ _ _ hn ⟨rfl, rfl, rfl⟩
   refine ⟨.inr ⟨rfl, .nil⟩, (rem [] _), fun hbd => (m3_rem (in_nil _) (.nil) hbd), (B r_), 3, rfl, rfl, ?_⟩
   refine un1 (v := (B (!r_))) rfl <| dnil ?_
   refine Sv.cnd rfl h (fun h => ?_) fun h => ?_
   ·refine ssr <| un1 rfl <| un <| acv_gen (bs := []) («as» := [(I 2)]) (h2 := _) (h1 := e0) rfl (by kernel_rfl) (Z1b (Γ := Γ) 2) rfl (.cons (avAs_free rfl) .nil) (hsub_refl _) (.nil _) (fun _ => rfl) (by decide) (by decide) (.cons (avAs_free rfl) .nil) .nil ?_
    rintro _ _ _ hn ⟨rfl, rfl, rfl⟩
    refine ⟨.inl rfl, (rem [] _), fun hbd => (m3_rem (in_nil _) (.nil) hbd), (.tup [(.agg [cI (((Z0 2).1).Now), cI (((Z0 2).1).Next), .ro false 7 ((((Z0 2).1).Tasks).map e_TJJob), .ro false 7 ((((Z0 2).1).Smalls).map e_TJJob), .ro false 5 ((((Z0 2).1).Timers).map e_TJTimer)]), (I ((Z0 2).2.1)), (I ((Z0 2).2.2))]), 3, rfl, rfl, ?_⟩
    refine un1 (v := (.agg [cI (((Z0 2).1).Now), cI (((Z0 2).1).Next), .ro false 7 ((((Z0 2).1).Tasks).map e_TJJob), .ro false 7 ((((Z0 2).1).Smalls).map e_TJJob), .ro false 5 ((((Z0 2).1).Timers).map e_TJTimer)])) rfl <| un1 (v := (I ((Z0 2).2.1))) rfl <| un1 (v := (I ((Z0 2).2.2))) rfl <| un <| a2n (h' := upd _ 2 (some (.cells 5 [[cI (((Z0 2).1).Now), cI (((Z0 2).1).Next), .ro false 7 ((((Z0 2).1).Tasks).map e_TJJob), .ro false 7 ((((Z0 2).1).Smalls).map e_TJJob), .ro false 5 ((((Z0 2).1).Timers).map e_TJTimer)]]))) (n' := 3) rfl rfl hcs <| un1 rfl <| un1 rfl <| dnil <| Sv.ret ?_
    exact rt0 h rfl rfl ⟨rfl, rfl, rfl⟩
   ·refine Sv.skip <| Sv.drawn2 <| un1 (v := (.c (.ref 0 5 0 2))) rfl <| un1 (v := (.c (.ro false 7 (q_.Tasks.map e_TJJob)))) rfl <| un1 rfl <| un1 (v := (.c (.ref 1 7 0 1))) rfl <| un1 (v := (I a_.Source)) rfl <| un1 (v := (.c (.ref 1 7 0 3))) rfl <| un1 (v := (S a_.Call)) rfl <| un1 (v := (.c (.ref 1 7 0 4))) rfl <| un1 (v := (.agg (e_TJVal a_.Arg))) rfl <| un1 (v := (.agg [cI q_.Next, cI a_.Source, cB false, .str a_.Call, cI a_.Arg.Kind, cI a_.Arg.N, .str a_.Arg.S])) rfl <| dnil ?_
    refine ⟨?_, ?_⟩
    ·obtain ⟨r_1, hr1, h⟩ := bnd h
     refine un <| ac_gen (bs := []) («as» := [(.c (.ro false 7 (q_.Tasks.map e_TJJob)))]) (h2 := _) (h1 := e0) (Z1g hr1) rfl (.cons (avAs_free rfl) .nil) (hsub_refl _) (.nil _) (fun _ => rfl) (by decide) (by decide) (.cons (avAs_free rfl) .nil) .nil ?_
     rintro _ _ _ hn ⟨z_, hz_, rfl, rfl, rfl⟩
     refine ⟨.inl rfl, (upd (rem [] _) 3 (lstB z_ 7 (r_1.map e_TJJob))), fun hbd => (m3_cons (m3_row rfl (fr_map fun _ => rfl)) (m3_rem (in_nil _) (.cons (by decide) .nil) hbd)), (lstV z_ 3 7 r_1.length), 4, (by cases z_ <;> rfl), rfl, ?_⟩
     refine un <| a2v (v := (lstV false 4 7 [(⟨q_.Next, a_.Source, false, a_.Call, a_.Arg⟩ : TJJob)].length)) (h' := upd _ 4 (lstB false 7 ([(⟨q_.Next, a_.Source, false, a_.Call, a_.Arg⟩ : TJJob)].map e_TJJob))) (n' := 5) rfl rfl (fun _ => rfl) ?_
     obtain ⟨r_2, hr2, h⟩ := bnd h
     have hz1 : (z_ && [(⟨q_.Next, a_.Source, false, a_.Call, a_.Arg⟩ : TJJob)].isEmpty) = true → r_2 = [] := app_nil (z := z_) (ys := [(⟨q_.Next, a_.Source, false, a_.Call, a_.Arg⟩ : TJJob)]) hz_ hr2
     refine un <| a2v rfl (s_app (xs := r_1) (ys := [(⟨q_.Next, a_.Source, false, a_.Call, a_.Arg⟩ : TJJob)]) (e := e_TJJob) (z := z_) (b := 3) rfl rfl hz_ rfl rfl (slc_lst rfl (List.length_map _).symm (map_nil_of hcs)) hr2) hcs <| un1 (v := (.c (.ref 0 5 0 2))) rfl <| un <| a2n (h' := upd _ 0 (some (.cells 5 [[cI q_.Now, cI q_.Next, lstC (z_ && [(⟨q_.Next, a_.Source, false, a_.Call, a_.Arg⟩ : TJJob)].isEmpty) 5 7 r_2.length, .ro false 7 (q_.Smalls.map e_TJJob), .ro false 5 (q_.Timers.map e_TJTimer)]]))) (n' := 6) rfl rfl hcs <| dnil ?_
     exact Sv.weak (wcn [0, 2] rfl (.cf rfl rfl (.cr rfl rfl rfl (.cr rfl rfl rfl .nil))) (.box (by decide) rfl (blkAs_cells (.sm rfl (.sm rfl (.sm rfl (.sm rfl (.sm rfl .nil)))))) (.box (by decide) rfl (blkAs_cells (.sm rfl (.sm rfl (.cons (lstC_ro (es := List.map e_TJJob r_2) rfl (List.length_map e_TJJob).symm (map_nil_of hz1) (fun b x hx => not_in (bs := [0, 2]) rfl b (((.cons (by decide) (.cons (by decide) .nil)) : HLt _ _) b x hx)) (fr_map fun _ => rfl)) (.sm rfl (.sm rfl .nil)))))) .nil))) (Z27 h)
    ·refine un <| a2v (v := (lstV false 3 7 [(⟨q_.Next, a_.Source, false, a_.Call, a_.Arg⟩ : TJJob)].length)) (h' := upd _ 3 (lstB false 7 ([(⟨q_.Next, a_.Source, false, a_.Call, a_.Arg⟩ : TJJob)].map e_TJJob))) (n' := 4) rfl rfl (fun _ => rfl) ?_
     obtain ⟨r_1, hr1, h⟩ := bnd h
     refine un <| ac_gen (bs := []) («as» := [(.c (.ro false 7 (q_.Tasks.map e_TJJob)))]) (h2 := _) (h1 := e0) (Z1g hr1) rfl (.cons (avAs_free rfl) .nil) (hsub_refl _) (.nil _) (fun _ => rfl) (by decide) (by decide) (.cons (avAs_free rfl) .nil) .nil ?_
     rintro _ _ _ hn ⟨z_, hz_, rfl, rfl, rfl⟩
     refine ⟨.inl rfl, (upd (rem [] _) 4 (lstB z_ 7 (r_1.map e_TJJob))), fun hbd => (m3_cons (m3_row rfl (fr_map fun _ => rfl)) (m3_rem (in_nil _) (.cons (by decide) .nil) hbd)), (lstV z_ 4 7 r_1.length), 5, (by cases z_ <;> rfl), rfl, ?_⟩
     obtain ⟨r_2, hr2, h⟩ := bnd h
     have hz1 : (z_ && [(⟨q_.Next, a_.Source, false, a_.Call, a_.Arg⟩ : TJJob)].isEmpty) = true → r_2 = [] := app_nil (z := z_) (ys := [(⟨q_.Next, a_.Source, false, a_.Call, a_.Arg⟩ : TJJob)]) hz_ hr2
     refine un <| a2v rfl (s_app (xs := r_1) (ys := [(⟨q_.Next, a_.Source, false, a_.Call, a_.Arg⟩ : TJJob)]) (e := e_TJJob) (z := z_) (b := 4) rfl rfl hz_ rfl rfl (slc_lst rfl (List.length_map _).symm (map_nil_of hcs)) hr2) hcs <| un1 (v := (.c (.ref 0 5 0 2))) rfl <| un <| a2n (h' := upd _ 0 (some (.cells 5 [[cI q_.Now, cI q_.Next, lstC (z_ && [(⟨q_.Next, a_.Source, false, a_.Call, a_.Arg⟩ : TJJob)].isEmpty) 5 7 r_2.length, .ro false 7 (q_.Smalls.map e_TJJob), .ro false 5 (q_.Timers.map e_TJTimer)]]))) (n' := 6) rfl rfl hcs <| dnil ?_
     exact Sv.weak (wcn [0, 2] rfl (.cf rfl rfl (.cr rfl rfl rfl (.cr rfl rfl rfl .nil))) (.box (by decide) rfl (blkAs_cells (.sm rfl (.sm rfl (.sm rfl (.sm rfl (.sm rfl .nil)))))) (.box (by decide) rfl (blkAs_cells (.sm rfl (.sm rfl (.cons (lstC_ro (es := List.map e_TJJob r_2) rfl (List.length_map e_TJJob).symm (map_nil_of hz1) (fun b x hx => not_in (bs := [0, 2]) rfl b (((.cons (by decide) (.cons (by decide) .nil)) : HLt _ _) b x hx)) (fr_map fun _ => rfl)) (.sm rfl (.sm rfl .nil)))))) .nil))) (Z27 h)
 ·refine ssr <| un1 (v := (B (decide (a_.Do = 2)))) rfl <| un1 rfl <| dnil ?_
  refine Sv.cnd rfl h (fun h => ?_) fun h => ?_
  ·refine Sv.seq <| ssr <| un1 rfl <| un1 (v := (.c (.ref 0 5 0 3))) rfl <| un1 (v := (.c (.ro false 7 (q_.Smalls.map e_TJJob)))) rfl <| un1 (v := (I (q_.Smalls.length : Int))) (s_len (e := e_TJJob) (xs := q_.Smalls) rfl) ?_
   obtain ⟨r_3, hr_3⟩ : ∃ r_3 : Bool, r_3 = (Z4 (q_.Smalls.length : Int) q_.Now q_.Next q_.Tasks q_.Smalls q_.Timers) := ⟨_, rfl⟩
   replace h := letAt hr_3 h
   have pr_3 := (Z2x (Γ := Γ) (q_.Smalls.length : Int) q_.Now q_.Next q_.Tasks q_.Smalls q_.Timers)
   rw [← hr_3] at pr_3
   refine un <| acv_gen (bs := []) («as» := [(I (q_.Smalls.length : Int)), (.c (.rop (e_TJLoop q_)))]) (h2 := (upd _ 0 none)) (h1 := e0) rfl (by kernel_rfl) pr_3 rfl (.cons (avAs_free rfl) (.cons (.c (ref_ro rfl (gone rfl) (.sm rfl (.sm rfl (.sm rfl (.sm rfl (.sm rfl .nil))))) rfl)) .nil)) (hsub_none (hsub_refl _)) (.nil _) (fun _ => rfl) (by decide) (by decide) (.cons (avAs_free rfl) (.cons (avAs_free rfl) .nil)) .nil ?_
   rintro _ _ _ hn ⟨rfl, rfl, rfl⟩
   refine ⟨.inr ⟨rfl, .nil⟩, (rem [] _), fun hbd => (m3_rem (in_nil _) (.nil) hbd), (B r_3), 3, rfl, rfl, ?_⟩
   refine un1 (v := (B (!r_3))) rfl <| dnil ?_
   refine Sv.cnd rfl h (fun h => ?_) fun h => ?_
   ·refine ssr <| un1 rfl <| un <| acv_gen (bs := []) («as» := [(I 2)]) (h2 := _) (h1 := e0) rfl (by kernel_rfl) (Z1b (Γ := Γ) 2) rfl (.cons (avAs_free rfl) .nil) (hsub_refl _) (.nil _) (fun _ => rfl) (by decide) (by decide) (.cons (avAs_free rfl) .nil) .nil ?_
    rintro _ _ _ hn ⟨rfl, rfl, rfl⟩
    refine ⟨.inl rfl, (rem [] _), fun hbd => (m3_rem (in_nil _) (.nil) hbd), (.tup [(.agg [cI (((Z0 2).1).Now), cI (((Z0 2).1).Next), .ro false 7 ((((Z0 2).1).Tasks).map e_TJJob), .ro false 7 ((((Z0 2).1).Smalls).map e_TJJob), .ro false 5 ((((Z0 2).1).Timers).map e_TJTimer)]), (I ((Z0 2).2.1)), (I ((Z0 2).2.2))]), 3, rfl, rfl, ?_⟩
    refine un1 (v := (.agg [cI (((Z0 2).1).Now), cI (((Z0 2).1).Next), .ro false 7 ((((Z0 2).1).Tasks).map e_TJJob), .ro false 7 ((((Z0 2).1).Smalls).map e_TJJob), .ro false 5 ((((Z0 2).1).Timers).map e_TJTimer)])) rfl <| un1 (v := (I ((Z0 2).2.1))) rfl <| un1 (v := (I ((Z0 2).2.2))) rfl <| un <| a2n (h' := upd _ 2 (some (.cells 5 [[cI (((Z0 2).1).Now), cI (((Z0 2).1).Next), .ro false 7 ((((Z0 2).1).Tasks).map e_TJJob), .ro false 7 ((((Z0 2).1).Smalls).map e_TJJob), .ro false 5 ((((Z0 2).1).Timers).map e_TJTimer)]]))) (n' := 3) rfl rfl hcs <| un1 rfl <| un1 rfl <| dnil <| Sv.ret ?_
    exact rt0 h rfl rfl ⟨rfl, rfl, rfl⟩
   ·refine Sv.skip <| Sv.drawn2 <| un1 (v := (.c (.ref 0 5 0 3))) rfl <| un1 (v := (.c (.ro false 7 (q_.Smalls.map e_TJJob)))) rfl <| un1 rfl <| un1 (v := (.c (.ref 1 7 0 3))) rfl <| un1 (v := (S a_.Call)) rfl <| un1 (v := (.c (.ref 1 7 0 4))) rfl <| un1 (v := (.agg (e_TJVal a_.Arg))) rfl <| un1 (v := (.agg [cI q_.Next, cI 0, cB true, .str a_.Call, cI a_.Arg.Kind, cI a_.Arg.N, .str a_.Arg.S])) rfl <| dnil ?_
    refine ⟨?_, ?_⟩
    ·obtain ⟨r_4, hr3, h⟩ := bnd h
     refine un <| ac_gen (bs := []) («as» := [(.c (.ro false 7 (q_.Smalls.map e_TJJob)))]) (h2 := _) (h1 := e0) (Z1g hr3) rfl (.cons (avAs_free rfl) .nil) (hsub_refl _) (.nil _) (fun _ => rfl) (by decide) (by decide) (.cons (avAs_free rfl) .nil) .nil ?_
     rintro _ _ _ hn ⟨z_1, hz_1, rfl, rfl, rfl⟩
     refine ⟨.inl rfl, (upd (rem [] _) 3 (lstB z_1 7 (r_4.map e_TJJob))), fun hbd => (m3_cons (m3_row rfl (fr_map fun _ => rfl)) (m3_rem (in_nil _) (.cons (by decide) .nil) hbd)), (lstV z_1 3 7 r_4.length), 4, (by cases z_1 <;> rfl), rfl, ?_⟩
     refine un <| a2v (v := (lstV false 4 7 [(⟨q_.Next, 0, true, a_.Call, a_.Arg⟩ : TJJob)].length)) (h' := upd _ 4 (lstB false 7 ([(⟨q_.Next, 0, true, a_.Call, a_.Arg⟩ : TJJob)].map e_TJJob))) (n' := 5) rfl rfl (fun _ => rfl) ?_
     obtain ⟨r_5, hr4, h⟩ := bnd h
     have hz2 : (z_1 && [(⟨q_.Next, 0, true, a_.Call, a_.Arg⟩ : TJJob)].isEmpty) = true → r_5 = [] := app_nil (z := z_1) (ys := [(⟨q_.Next, 0, true, a_.Call, a_.Arg⟩ : TJJob)]) hz_1 hr4
     refine un <| a2v rfl (s_app (xs := r_4) (ys := [(⟨q_.Next, 0, true, a_.Call, a_.Arg⟩ : TJJob)]) (e := e_TJJob) (z := z_1) (b := 3) rfl rfl hz_1 rfl rfl (slc_lst rfl (List.length_map _).symm (map_nil_of hcs)) hr4) hcs <| un1 (v := (.c (.ref 0 5 0 3))) rfl <| un <| a2n (h' := upd _ 0 (some (.cells 5 [[cI q_.Now, cI q_.Next, .ro false 7 (q_.Tasks.map e_TJJob), lstC (z_1 && [(⟨q_.Next, 0, true, a_.Call, a_.Arg⟩ : TJJob)].isEmpty) 5 7 r_5.length, .ro false 5 (q_.Timers.map e_TJTimer)]]))) (n' := 6) rfl rfl hcs <| dnil ?_
     exact Sv.weak (wcn [0, 2] rfl (.cf rfl rfl (.cr rfl rfl rfl (.cr rfl rfl rfl .nil))) (.box (by decide) rfl (blkAs_cells (.sm rfl (.sm rfl (.sm rfl (.sm rfl (.sm rfl .nil)))))) (.box (by decide) rfl (blkAs_cells (.sm rfl (.sm rfl (.sm rfl (.cons (lstC_ro (es := List.map e_TJJob r_5) rfl (List.length_map e_TJJob).symm (map_nil_of hz2) (fun b x hx => not_in (bs := [0, 2]) rfl b (((.cons (by decide) (.cons (by decide) .nil)) : HLt _ _) b x hx)) (fr_map fun _ => rfl)) (.sm rfl .nil)))))) .nil))) (Z27 h)
    ·refine un <| a2v (v := (lstV false 3 7 [(⟨q_.Next, 0, true, a_.Call, a_.Arg⟩ : TJJob)].length)) (h' := upd _ 3 (lstB false 7 ([(⟨q_.Next, 0, true, a_.Call, a_.Arg⟩ : TJJob)].map e_TJJob))) (n' := 4) rfl rfl (fun _ => rfl) ?_
     obtain ⟨r_4, hr3, h⟩ := bnd h
     refine un <| ac_gen (bs := []) («as» := [(.c (.ro false 7 (q_.Smalls.map e_TJJob)))]) (h2 := _) (h1 := e0) (Z1g hr3) rfl (.cons (avAs_free rfl) .nil) (hsub_refl _) (.nil _) (fun _ => rfl) (by decide) (by decide) (.cons (avAs_free rfl) .nil) .nil ?_
     rintro _ _ _ hn ⟨z_1, hz_1, rfl, rfl, rfl⟩
     refine ⟨.inl rfl, (upd (rem [] _) 4 (lstB z_1 7 (r_4.map e_TJJob))), fun hbd => (m3_cons (m3_row rfl (fr_map fun _ => rfl)) (m3_rem (in_nil _) (.cons (by decide) .nil) hbd)), (lstV z_1 4 7 r_4.length), 5, (by cases z_1 <;> rfl), rfl, ?_⟩
     obtain ⟨r_5, hr4, h⟩ := bnd h
     have hz2 : (z_1 && [(⟨q_.Next, 0, true, a_.Call, a_.Arg⟩ : TJJob)].isEmpty) = true → r_5 = [] := app_nil (z := z_1) (ys := [(⟨q_.Next, 0, true, a_.Call, a_.Arg⟩ : TJJob)]) hz_1 hr4
     refine un <| a2v rfl (s_app (xs := r_4) (ys := [(⟨q_.Next, 0, true, a_.Call, a_.Arg⟩ : TJJob)]) (e := e_TJJob) (z := z_1) (b := 4) rfl rfl hz_1 rfl rfl (slc_lst rfl (List.length_map _).symm (map_nil_of hcs)) hr4) hcs <| un1 (v := (.c (.ref 0 5 0 3))) rfl <| un <| a2n (h' := upd _ 0 (some (.cells 5 [[cI q_.Now, cI q_.Next, .ro false 7 (q_.Tasks.map e_TJJob), lstC (z_1 && [(⟨q_.Next, 0, true, a_.Call, a_.Arg⟩ : TJJob)].isEmpty) 5 7 r_5.length, .ro false 5 (q_.Timers.map e_TJTimer)]]))) (n' := 6) rfl rfl hcs <| dnil ?_
     exact Sv.weak (wcn [0, 2] rfl (.cf rfl rfl (.cr rfl rfl rfl (.cr rfl rfl rfl .nil))) (.box (by decide) rfl (blkAs_cells (.sm rfl (.sm rfl (.sm rfl (.sm rfl (.sm rfl .nil)))))) (.box (by decide) rfl (blkAs_cells (.sm rfl (.sm rfl (.sm rfl (.cons (lstC_ro (es := List.map e_TJJob r_5) rfl (List.length_map e_TJJob).symm (map_nil_of hz2) (fun b x hx => not_in (bs := [0, 2]) rfl b (((.cons (by decide) (.cons (by decide) .nil)) : HLt _ _) b x hx)) (fr_map fun _ => rfl)) (.sm rfl .nil)))))) .nil))) (Z27 h)
  ·refine Sv.seq <| ssr <| un1 (v := (B (decide (a_.Do = 3)))) rfl <| un1 rfl <| dnil ?_
   refine Sv.cnd rfl h (fun h => ?_) fun h => ?_
   ·refine Sv.skip ?_
    exact Sv.weak (wcn [0, 1, 2] rfl (.cf rfl rfl (.cf rfl rfl (.cf rfl rfl (.cons rfl (.c (fn_as .nil (.cons (.ref rfl (by decide)) .nil))) (.cf rfl rfl (.cr rfl rfl rfl (.cr rfl rfl rfl (.cr rfl rfl rfl .nil)))))))) (.box (by decide) rfl (blkAs_cells (.sm rfl (.sm rfl (.sm rfl (.sm rfl (.sm rfl .nil)))))) (.box (by decide) rfl (blkAs_cells (.sm rfl (.sm rfl (.sm rfl (.sm rfl (.sm rfl (.sm rfl (.sm rfl .nil)))))))) (.box (by decide) rfl (blkAs_cells (.sm rfl (.sm rfl (.sm rfl (.sm rfl (.sm rfl .nil)))))) .nil)))) (Z4o h)
   ·refine srg <| un1 (v := (B (decide (a_.Do = 4)))) rfl <| un1 rfl <| dnil ?_
    exact Sv.weak (wcn [0, 1, 2] rfl (.cf rfl rfl (.cf rfl rfl (.cf rfl rfl (.cons rfl (.c (fn_as .nil (.cons (.ref rfl (by decide)) .nil))) (.cf rfl rfl (.cr rfl rfl rfl (.cr rfl rfl rfl (.cr rfl rfl rfl .nil)))))))) (.box (by decide) rfl (blkAs_cells (.sm rfl (.sm rfl (.sm rfl (.sm rfl (.sm rfl .nil)))))) (.box (by decide) rfl (blkAs_cells (.sm rfl (.sm rfl (.sm rfl (.sm rfl (.sm rfl (.sm rfl (.sm rfl .nil)))))))) (.box (by decide) rfl (blkAs_cells (.sm rfl (.sm rfl (.sm rfl (.sm rfl (.sm rfl .nil)))))) .nil)))) (Z4o h)
def a13_c1 : ACode := (.seq (.drawn (.alt [((oP 101 (.load true 5 (.tmp 2))), (0, 0))] (.fin [((oP 102 (.load true 7 (.tmp 10))), (1, 1)), ((oN (.store 5 (.tmp 4) (.tmp 101))), (2, 2)), ((oN (.store 7 (.tmp 5) (.tmp 102))), (2, 3)), ((oP 6 (.mov kT)), (0, 4))]) (.fin [((oN (.store 5 (.tmp 4) (.tmp 101))), (2, 2)), ((oP 102 (.load true 7 (.tmp 10))), (1, 1)), ((oN (.store 7 (.tmp 5) (.tmp 102))), (2, 3)), ((oP 6 (.mov kT)), (0, 4))])))
 .ret)
def a13_c0 : ACode := (sr [(oP 62 (.faddr 0 (.tmp 9))), (oP 63 (.load false 1 (.tmp 62))), (oP 64 (.faddr 4 (.tmp 9))), (oP 65 (.load false 1 (.tmp 64))), (oP 66 (.faddr 3 (.tmp 9))), (oP 67 (.load false 1 (.tmp 66))), (oP 68 (.build [(.val (.int .i64 0)), (.val (.int .i64 0)), (.str [])] [(0, (1, (kI 2))), (1, (1, (.tmp 67)))])), (oP 69 (.build [(.val (.int .i64 0)), (.val (.int .i64 0)), (.val (.bool false)), (.str []), (.val (.int .i64 0)), (.val (.int .i64 0)), (.str [])] [(0, (1, (.tmp 63))), (1, (1, (kI 3))), (3, (1, (.tmp 65))), (4, (3, (.tmp 68)))])), (oP 10 (.box (.const (.agg [(.val (.int .i64 0)), (.val (.int .i64 0)), (.val (.bool false)), (.str []), (.val (.int .i64 0)), (.val (.int .i64 0)), (.str [])])))), (oN (.store 7 (.tmp 10) (.tmp 69)))]
 (.seq (sr [(oP 70 (.faddr 2 (.tmp 9))), (oP 71 (.load false 1 (.tmp 70))), (oP 72 (.bin .gtr (.tmp 71) (kI 0))), (mV 73 72), ⟨(some 74), (.faddr 3 (.tmp 9)), (some (73, true))⟩, ⟨(some 75), (.load false 1 (.tmp 74)), (some (73, true))⟩, ⟨(some 76), (.bin .lss (.tmp 75) (kI 1000000000)), (some (73, true))⟩, (oP 77 (.pick (.tmp 73) (.tmp 76) kF)), (mV 78 77), ⟨(some 79), (.faddr 1 (.tmp 9)), (some (78, true))⟩, ⟨(some 80), (.load false 1 (.tmp 79)), (some (78, true))⟩, ⟨(some 81), (.faddr 2 (.tmp 9)), (some (78, true))⟩, ⟨(some 82), (.load false 1 (.tmp 81)), (some (78, true))⟩, ⟨(some 83), (.bin .add (.tmp 80) (.tmp 82)), (some (78, true))⟩, ⟨(some 84), (.bin .leq (.tmp 83) (kI 1000000000)), (some (78, true))⟩, (oP 85 (.pick (.tmp 78) (.tmp 84) kF))]
 (.cond (.tmp 85) (sr [(oP 86 (.faddr 1 (.tmp 9))), (oP 87 (.load false 1 (.tmp 86))), (oP 88 (.faddr 2 (.tmp 9))), (oP 89 (.load false 1 (.tmp 88))), (oP 90 (.bin .add (.tmp 87) (.tmp 89))), (oP 91 (.faddr 1 (.tmp 9))), (oN (.store 1 (.tmp 91) (.tmp 90)))]
 (sr [(oP 92 (.faddr 3 (.tmp 9))), (oP 93 (.load false 1 (.tmp 92))), (oP 94 (.bin .add (.tmp 93) (kI 1))), (oP 95 (.faddr 3 (.tmp 9))), (oN (.store 1 (.tmp 95) (.tmp 94)))]
 (.region [(oP 96 (.faddr 4 (.tmp 2))), (oP 97 (.load false 1 (.tmp 96))), (oP 98 (.load true 5 (.tmp 9))), (oP 99 (.call 47 [(.tmp 97), (.tmp 98)])), (oP 100 (.faddr 4 (.tmp 2))), (oN (.store 1 (.tmp 100) (.tmp 99)))]))) .skip))
 a13_c1))
def a13_c2 : ACode := (.region [(oP 103 (.bin .add (.tmp 29) (kI 1))), (mV 29 103)])
def a13_c3 : ACode := (sr [(oP 30 (.bin .lss (.tmp 29) (.tmp 28)))]
 (.seq (.cond (.tmp 30) .skip (.exit 0))
 (.seq (.block 1 (sr [(oP 31 (.iaddr 5 (.tmp 27) (.tmp 29))), (oP 32 (.load true 5 (.tmp 31))), (oP 9 (.box (.const (.agg [(.val (.int .i64 0)), (.val (.int .i64 0)), (.val (.int .i64 0)), (.val (.int .i64 0)), (.str [])])))), (oN (.store 5 (.tmp 9) (.tmp 32)))]
 (.seq (sr [(oP 33 (.faddr 1 (.tmp 9))), (oP 34 (.load false 1 (.tmp 33))), (oP 35 (.faddr 0 (.tmp 2))), (oP 36 (.load false 1 (.tmp 35))), (oP 37 (.bin .gtr (.tmp 34) (.tmp 36))), (mV 38 37), ⟨(some 39), (.faddr 2 (.tmp 2)), (some (38, true))⟩, ⟨(some 40), (.load false 1 (.tmp 39)), (some (38, true))⟩, ⟨(some 41), (.len (.tmp 40)), (some (38, true))⟩, ⟨(some 42), (.bin .gtr (.tmp 41) (kI 0)), (some (38, true))⟩, ⟨(some 43), (.mov (.tmp 42)), (some (38, true))⟩, ⟨(some 44), (.faddr 1 (.tmp 9)), (some (43, false))⟩, ⟨(some 45), (.load false 1 (.tmp 44)), (some (43, false))⟩, ⟨(some 46), (.mov (.tmp 1)), (some (43, false))⟩, ⟨(some 47), (.bin .gtr (.tmp 45) (.tmp 46)), (some (43, false))⟩, ⟨(some 48), (.pick (.tmp 43) kT (.tmp 47)), (some (38, true))⟩, (oP 49 (.pick (.tmp 38) (.tmp 48) kF))]
 (.cond (.tmp 49) (.exit 0) .skip))
 (sr [(oP 50 (.faddr 4 (.tmp 2))), (oP 51 (.load false 1 (.tmp 50))), (oP 52 (.slSl 5 (.tmp 51) (some (kI 1)) none none)), (oP 53 (.faddr 4 (.tmp 2))), (oN (.store 1 (.tmp 53) (.tmp 52)))]
 (.seq (sr [(oP 54 (.faddr 1 (.tmp 9))), (oP 55 (.load false 1 (.tmp 54))), (oP 56 (.faddr 0 (.tmp 2))), (oP 57 (.load false 1 (.tmp 56))), (oP 58 (.bin .gtr (.tmp 55) (.tmp 57)))]
 (.cond (.tmp 58) (.region [(oP 59 (.faddr 1 (.tmp 9))), (oP 60 (.load false 1 (.tmp 59))), (oP 61 (.faddr 0 (.tmp 2))), (oN (.store 1 (.tmp 61) (.tmp 60)))]) .skip))
 a13_c0)))))
 a13_c2)))
def a13 : AFunc := ⟨2, [(.cell true 5 4), (.cell true 7 5), (.tmp 6)], (sr [(oP 2 (.box (.tmp 0))), (oP 4 (.box (.const (.agg [(.val (.int .i64 0)), (.val (.int .i64 0)), (.ro true 7 []), (.ro true 7 []), (.ro true 5 [])])))), (oP 5 (.box (.const (.agg [(.val (.int .i64 0)), (.val (.int .i64 0)), (.val (.bool false)), (.str []), (.val (.int .i64 0)), (.val (.int .i64 0)), (.str [])])))), (oP 6 (.mov kF))]
 (.seq (sr [(oP 12 (.faddr 3 (.tmp 2))), (oP 13 (.load false 1 (.tmp 12))), (oP 14 (.len (.tmp 13))), (oP 15 (.bin .gtr (.tmp 14) (kI 0)))]
 (.cond (.tmp 15) (sr [(oP 16 (.faddr 3 (.tmp 2))), (oP 17 (.load false 1 (.tmp 16))), (oP 18 (.iaddr 7 (.tmp 17) (kI 0))), (oP 19 (.load true 7 (.tmp 18))), (oP 7 (.box (.const (.agg [(.val (.int .i64 0)), (.val (.int .i64 0)), (.val (.bool false)), (.str []), (.val (.int .i64 0)), (.val (.int .i64 0)), (.str [])])))), (oN (.store 7 (.tmp 7) (.tmp 19)))]
 (sr [(oP 20 (.faddr 3 (.tmp 2))), (oP 21 (.load false 1 (.tmp 20))), (oP 22 (.slSl 7 (.tmp 21) (some (kI 1)) none none)), (oP 23 (.faddr 3 (.tmp 2))), (oN (.store 1 (.tmp 23) (.tmp 22)))]
 (.seq (.drawn (.alt [((oP 24 (.load true 5 (.tmp 2))), (0, 0))] (.fin [((oP 25 (.load true 7 (.tmp 7))), (1, 1)), ((oN (.store 5 (.tmp 4) (.tmp 24))), (2, 2)), ((oN (.store 7 (.tmp 5) (.tmp 25))), (2, 3)), ((oP 6 (.mov kT)), (0, 4))]) (.fin [((oN (.store 5 (.tmp 4) (.tmp 24))), (2, 2)), ((oP 25 (.load true 7 (.tmp 7))), (1, 1)), ((oN (.store 7 (.tmp 5) (.tmp 25))), (2, 3)), ((oP 6 (.mov kT)), (0, 4))])))
 .ret))) .skip))
 (.seq (sr [(oP 26 (.faddr 4 (.tmp 2))), (oP 27 (.load false 1 (.tmp 26))), (oP 28 (.len (.tmp 27))), (oP 29 (.mov (kI 0)))]
 (.block 0 (.loop a13_c3)))
 (.seq (sr [(oP 104 (.faddr 2 (.tmp 2))), (oP 105 (.load false 1 (.tmp 104))), (oP 106 (.len (.tmp 105))), (oP 107 (.bin .gtr (.tmp 106) (kI 0)))]
 (.cond (.tmp 107) (sr [(oP 108 (.faddr 2 (.tmp 2))), (oP 109 (.load false 1 (.tmp 108))), (oP 110 (.iaddr 7 (.tmp 109) (kI 0))), (oP 111 (.load true 7 (.tmp 110))), (oP 11 (.box (.const (.agg [(.val (.int .i64 0)), (.val (.int .i64 0)), (.val (.bool false)), (.str []), (.val (.int .i64 0)), (.val (.int .i64 0)), (.str [])])))), (oN (.store 7 (.tmp 11) (.tmp 111)))]
 (sr [(oP 112 (.faddr 2 (.tmp 2))), (oP 113 (.load false 1 (.tmp 112))), (oP 114 (.slSl 7 (.tmp 113) (some (kI 1)) none none)), (oP 115 (.faddr 2 (.tmp 2))), (oN (.store 1 (.tmp 115) (.tmp 114)))]
 (.seq (.drawn (.alt [((oP 116 (.load true 5 (.tmp 2))), (0, 0))] (.fin [((oP 117 (.load true 7 (.tmp 11))), (1, 1)), ((oN (.store 5 (.tmp 4) (.tmp 116))), (2, 2)), ((oN (.store 7 (.tmp 5) (.tmp 117))), (2, 3)), ((oP 6 (.mov kT)), (0, 4))]) (.fin [((oN (.store 5 (.tmp 4) (.tmp 116))), (2, 2)), ((oP 117 (.load true 7 (.tmp 11))), (1, 1)), ((oN (.store 7 (.tmp 5) (.tmp 117))), (2, 3)), ((oP 6 (.mov kT)), (0, 4))])))
 .ret))) .skip))
 (sr [(mV 118 1), (oP 119 (.faddr 0 (.tmp 2))), (oN (.store 1 (.tmp 119) (.tmp 118)))]
 (sr [(oP 120 (.load true 5 (.tmp 2))), (oP 121 (.build [(.val (.int .i64 0)), (.val (.int .i64 0)), (.val (.bool false)), (.str []), (.val (.int .i64 0)), (.val (.int .i64 0)), (.str [])] [])), (oN (.store 5 (.tmp 4) (.tmp 120))), (oN (.store 7 (.tmp 5) (.tmp 121))), (oP 6 (.mov kF))]
 .ret))))))⟩
theorem c13 : compFunc Try.prog 13 = some a13 := by kernel_rfl
def Z2k (r : (TJLoop × TJJob × Bool)) : AV → Heap → Nat → Prop := fun v h' n' => v = (.tup [(.agg (e_TJLoop r.1)), (.agg (e_TJJob r.2.1)), (B r.2.2)]) ∧ (h' = e0) ∧ n' = 0
abbrev Z2y (until_ : Int) (q_ : TJLoop) (F_ : Option (TJLoop × TJJob × Bool)) (o : (TJLoop × TJJob × Bool)) (R_ : St → Prop) : Prop := F_ = some o → ∀ s, Weak 0 s ⟨(ue [(29, (I 0)), (28, (I (q_.Timers.length : Int))), (27, (.c (.ro false 5 (q_.Timers.map e_TJTimer)))), (5, (.c (.ref 2 7 0 0))), (4, (.c (.ref 1 5 0 0))), (2, (.c (.ref 0 5 0 0))), (1, (I until_))]), (upd (upd (upd e0 0 (some (.cells 5 [(e_TJLoop q_)]))) 1 (some (.cells 5 [[cI 0, cI 0, .ro true 7 [], .ro true 7 [], .ro true 5 []]]))) 2 (some (.cells 7 [[cI 0, cI 0, cB false, .str [], cI 0, cI 0, .str []]]))), 3⟩ → R_ s
abbrev Z2z (until_ : Int) (q_ : TJLoop) (F_ : Unit → Option (TJLoop × TJJob × Bool)) (o : (TJLoop × TJJob × Bool)) (R_ : St → Prop) : Prop := ∀ (_ : Unit), F_ () = some o → ∀ s, Weak 0 s ⟨(ue [(5, (.c (.ref 2 7 0 0))), (4, (.c (.ref 1 5 0 0))), (2, (.c (.ref 0 5 0 0))), (1, (I until_))]), (upd (upd (upd e0 0 (some (.cells 5 [(e_TJLoop q_)]))) 1 (some (.cells 5 [[cI 0, cI 0, .ro true 7 [], .ro true 7 [], .ro true 5 []]]))) 2 (some (.cells 7 [[cI 0, cI 0, cB false, .str [], cI 0, cI 0, .str []]]))), 3⟩ → R_ s
abbrev Z7i (Γ : Glob) (Q : AExit → St → Prop) : AExit → St → Prop := AThen (Sv Try.prog Γ 0 a13_c2 Q) Q
abbrev Z4p (Γ : Glob) (Q : AExit → St → Prop) : AExit → St → Prop := ABlock 1 (Z7i Γ Q)
noncomputable def Z29 (q0 : Int) (q_ : TJLoop) (x_1 : TJTimer) (until_ : Int) (self : Option (TJLoop × TJJob × Bool)) (K0_ : Unit → Option (TJLoop × TJJob × Bool)) (q4 : (List TJTimer)) : Option (TJLoop × TJJob × Bool) :=
 some ((⟨q0, q_.Next, q_.Tasks, q_.Smalls, q4⟩ : TJLoop), (⟨x_1.ID, 3, false, x_1.Call, (⟨2, x_1.Turn, []⟩ : TJVal)⟩ : TJJob), true)
theorem Z4q {Γ : Glob} {Q : AExit → St → Prop} {q0 : Int} {q_ : TJLoop} {x_1 : TJTimer} {until_ : Int} {self : Option (TJLoop × TJJob × Bool)} {K0_ : Unit → Option (TJLoop × TJJob × Bool)} {q4 : (List TJTimer)} {o : (TJLoop × TJJob × Bool)} (h : Z29 q0 q_ x_1 until_ self K0_ q4 = some o)
  (hself : Z2y until_ q_ self o (Q .normal))
  (hK0 : Z2z until_ q_ K0_ o (Q (.exit 0)))
  (hr : ∀ s, Ends a13.results 0 (Z2k o) .ret s → Q .ret s) :
  Sv Try.prog Γ 0 a13_c1 (Z4p Γ Q) ⟨(ue [(10, (.c (.ref 3 7 0 0))), (5, (.c (.ref 2 7 0 0))), (4, (.c (.ref 1 5 0 0))), (2, (.c (.ref 0 5 0 0)))]), (upd (upd (upd (upd e0 0 (some (.cells 5 [[cI q0, cI q_.Next, .ro false 7 (q_.Tasks.map e_TJJob), .ro false 7 (q_.Smalls.map e_TJJob), .ro false 5 (q4.map e_TJTimer)]]))) 1 (some (.cells 5 [[cI 0, cI 0, .ro true 7 [], .ro true 7 [], .ro true 5 []]]))) 2 (some (.cells 7 [[cI 0, cI 0, cB false, .str [], cI 0, cI 0, .str []]]))) 3 (some (.cells 7 [[cI x_1.ID, cI 3, cB false, .str x_1.Call, cI 2, cI x_1.Turn, .str []]]))), 4⟩ := by
 unfold Z29 at h
 refine Sv.seq <| Sv.drawn2 <| un1 (v := (.agg [cI q0, cI q_.Next, .ro false 7 (q_.Tasks.map e_TJJob), .ro false 7 (q_.Smalls.map e_TJJob), .ro false 5 (q4.map e_TJTimer)])) rfl <| dnil ?_
 refine ⟨?_, ?_⟩
 ·refine un1 (v := (.agg [cI x_1.ID, cI 3, cB false, .str x_1.Call, cI 2, cI x_1.Turn, .str []])) rfl <| un <| a2n (h' := upd _ 1 (some (.cells 5 [[cI q0, cI q_.Next, .ro false 7 (q_.Tasks.map e_TJJob), .ro false 7 (q_.Smalls.map e_TJJob), .ro false 5 (q4.map e_TJTimer)]]))) (n' := 4) rfl rfl hcs <| un <| a2n (h' := upd _ 2 (some (.cells 7 [[cI x_1.ID, cI 3, cB false, .str x_1.Call, cI 2, cI x_1.Turn, .str []]]))) (n' := 4) rfl rfl hcs <| un1 rfl <| dnil <| Sv.ret ?_
  exact hr _ (rt0 h rfl rfl ⟨rfl, rfl, rfl⟩)
 ·refine un <| a2n (h' := upd _ 1 (some (.cells 5 [[cI q0, cI q_.Next, .ro false 7 (q_.Tasks.map e_TJJob), .ro false 7 (q_.Smalls.map e_TJJob), .ro false 5 (q4.map e_TJTimer)]]))) (n' := 4) rfl rfl hcs <| un1 (v := (.agg [cI x_1.ID, cI 3, cB false, .str x_1.Call, cI 2, cI x_1.Turn, .str []])) rfl <| un <| a2n (h' := upd _ 2 (some (.cells 7 [[cI x_1.ID, cI 3, cB false, .str x_1.Call, cI 2, cI x_1.Turn, .str []]]))) (n' := 4) rfl rfl hcs <| un1 rfl <| dnil <| Sv.ret ?_
  exact hr _ (rt0 h rfl rfl ⟨rfl, rfl, rfl⟩)
noncomputable def Z1r (x_1 : TJTimer) (r_1 : (List TJTimer)) (q_ : TJLoop) (until_ : Int) (self : Option (TJLoop × TJJob × Bool)) (K0_ : Unit → Option (TJLoop × TJJob × Bool)) (q0 : Int) : Option (TJLoop × TJJob × Bool) :=
 if (((decide (0 < x_1.Every)) && (decide (x_1.Turn < 1000000000))) && (decide ((wi (x_1.At + x_1.Every)) ≤ 1000000000))) then
  (Z1d r_1 (⟨x_1.ID, (wi (x_1.At + x_1.Every)), x_1.Every, (wi (x_1.Turn + 1)), x_1.Call⟩ : TJTimer)).bind fun r_2 =>
  Z29 q0 q_ x_1 until_ self K0_ r_2
 else
  Z29 q0 q_ x_1 until_ self K0_ r_1
theorem Z4r {Γ : Glob} {Q : AExit → St → Prop} {x_1 : TJTimer} {r_1 : (List TJTimer)} {q_ : TJLoop} {until_ : Int} {self : Option (TJLoop × TJJob × Bool)} {K0_ : Unit → Option (TJLoop × TJJob × Bool)} {q0 : Int} {o : (TJLoop × TJJob × Bool)} (h : Z1r x_1 r_1 q_ until_ self K0_ q0 = some o)
  (hself : Z2y until_ q_ self o (Q .normal))
  (hK0 : Z2z until_ q_ K0_ o (Q (.exit 0)))
  (hr : ∀ s, Ends a13.results 0 (Z2k o) .ret s → Q .ret s) :
  Sv Try.prog Γ 0 a13_c0 (Z4p Γ Q) ⟨(ue [(9, (.c (.ref 3 5 0 0))), (5, (.c (.ref 2 7 0 0))), (4, (.c (.ref 1 5 0 0))), (2, (.c (.ref 0 5 0 0)))]), (upd (upd (upd (upd e0 0 (some (.cells 5 [[cI q0, cI q_.Next, .ro false 7 (q_.Tasks.map e_TJJob), .ro false 7 (q_.Smalls.map e_TJJob), .ro false 5 (r_1.map e_TJTimer)]]))) 1 (some (.cells 5 [[cI 0, cI 0, .ro true 7 [], .ro true 7 [], .ro true 5 []]]))) 2 (some (.cells 7 [[cI 0, cI 0, cB false, .str [], cI 0, cI 0, .str []]]))) 3 (some (.cells 5 [(e_TJTimer x_1)]))), 4⟩ := by
 unfold Z1r at h
 refine ssr <| un1 (v := (.c (.ref 3 5 0 0))) rfl <| un1 (v := (I x_1.ID)) rfl <| un1 (v := (.c (.ref 3 5 0 4))) rfl <| un1 (v := (S x_1.Call)) rfl <| un1 (v := (.c (.ref 3 5 0 3))) rfl <| un1 (v := (I x_1.Turn)) rfl <| un1 (v := (.agg [cI 2, cI x_1.Turn, .str []])) rfl <| un1 (v := (.agg [cI x_1.ID, cI 3, cB false, .str x_1.Call, cI 2, cI x_1.Turn, .str []])) rfl <| un <| a2v (v := (.c (.ref 4 7 0 0))) (h' := upd _ 4 (some (.cells 7 [[cI 0, cI 0, cB false, .str [], cI 0, cI 0, .str []]]))) (n' := 5) rfl rfl hcs <| un <| a2n (h' := upd _ 4 (some (.cells 7 [[cI x_1.ID, cI 3, cB false, .str x_1.Call, cI 2, cI x_1.Turn, .str []]]))) (n' := 5) rfl rfl hcs <| dnil <| Sv.seq <| ssr <| un1 (v := (.c (.ref 3 5 0 2))) rfl <| un1 (v := (I x_1.Every)) rfl <| un1 (v := (B (decide (0 < x_1.Every)))) rfl <| un1 rfl ?_
 refine gjoin 4 (d := 77) (v := (B ((decide (0 < x_1.Every)) && (decide (x_1.Turn < 1000000000))))) (fun X hX => ?_) ?_
 ·refine split2 (fun hc6 => ?_) (fun hc6 => ?_)
  ·refine gt rfl <| a1 (v := (.c (.ref 3 5 0 3))) rfl <| gt rfl <| a1 (v := (I x_1.Turn)) rfl <| gt rfl <| a1 (v := (B (decide (x_1.Turn < 1000000000)))) rfl <| un1 (v := (B (decide (x_1.Turn < 1000000000)))) rfl <| dnil ?_
   exact hX _ (.putEq (by rw [hc6]; rfl) (.skp (.skp (.skp (.putEq (by rw [hc6]) (.refl _)) rfl) rfl) rfl))
  ·refine gs rfl rfl <| gs rfl rfl <| gs rfl rfl <| un1 (v := (B false)) rfl <| dnil ?_
   exact hX _ (.putEq (by rw [hc6]; rfl) (.skp (.skp (.skp (.putEq (by rw [hc6]) (.refl _)) rfl) rfl) rfl))
 refine un1 rfl ?_
 refine gjoin 7 (d := 85) (v := (B (((decide (0 < x_1.Every)) && (decide (x_1.Turn < 1000000000))) && (decide ((wi (x_1.At + x_1.Every)) ≤ 1000000000))))) (fun X hX => ?_) ?_
 ·refine split2 (fun hc7 => ?_) (fun hc7 => ?_)
  ·refine gt rfl <| a1 (v := (.c (.ref 3 5 0 1))) rfl <| gt rfl <| a1 (v := (I x_1.At)) rfl <| gt rfl <| a1 (v := (.c (.ref 3 5 0 2))) rfl <| gt rfl <| a1 (v := (I x_1.Every)) rfl <| gt rfl <| a1 (v := (I (wi (x_1.At + x_1.Every)))) rfl <| gt rfl <| a1 (v := (B (decide ((wi (x_1.At + x_1.Every)) ≤ 1000000000)))) rfl <| un1 (v := (B (decide ((wi (x_1.At + x_1.Every)) ≤ 1000000000)))) rfl <| dnil ?_
   exact hX _ (.putEq (by rw [hc7]; rfl) (by repeat (first | exact .putEq (by rw [hc7]) (.refl _) | refine .skp ?_ rfl)))
  ·repeat (first | refine gu rfl ?_ | refine gs rfl rfl ?_)
   refine un1 (v := (B false)) rfl <| dnil ?_
   exact hX _ (.putEq (by rw [hc7]; rfl) (by repeat (first | exact .putEq (by rw [hc7]) (.refl _) | refine .skp ?_ rfl)))
 refine dnil ?_
 refine Sv.cnd rfl h (fun h => ?_) fun h => ?_
 ·refine ssr <| un1 (v := (.c (.ref 3 5 0 1))) rfl <| un1 (v := (I x_1.At)) rfl <| un1 (v := (.c (.ref 3 5 0 2))) rfl <| un1 (v := (I x_1.Every)) rfl <| un1 (v := (I (wi (x_1.At + x_1.Every)))) rfl <| un1 (v := (.c (.ref 3 5 0 1))) rfl <| un <| a2n (h' := upd _ 3 (some (.cells 5 [[cI x_1.ID, cI (wi (x_1.At + x_1.Every)), cI x_1.Every, cI x_1.Turn, .str x_1.Call]]))) (n' := 5) rfl rfl hcs <| dnil <| ssr <| un1 (v := (.c (.ref 3 5 0 3))) rfl <| un1 (v := (I x_1.Turn)) rfl <| un1 (v := (I (wi (x_1.Turn + 1)))) rfl <| un1 (v := (.c (.ref 3 5 0 3))) rfl <| un <| a2n (h' := upd _ 3 (some (.cells 5 [[cI x_1.ID, cI (wi (x_1.At + x_1.Every)), cI x_1.Every, cI (wi (x_1.Turn + 1)), .str x_1.Call]]))) (n' := 5) rfl rfl hcs <| dnil <| srg <| un1 (v := (.c (.ref 0 5 0 4))) rfl <| un1 (v := (.c (.ro false 5 (r_1.map e_TJTimer)))) rfl <| un1 (v := (.agg [cI x_1.ID, cI (wi (x_1.At + x_1.Every)), cI x_1.Every, cI (wi (x_1.Turn + 1)), .str x_1.Call])) rfl ?_
  obtain ⟨r_2, hr1, h⟩ := bnd h
  refine un <| ac_gen (bs := []) («as» := [(.c (.ro false 5 (r_1.map e_TJTimer))), (.agg [cI x_1.ID, cI (wi (x_1.At + x_1.Every)), cI x_1.Every, cI (wi (x_1.Turn + 1)), .str x_1.Call])]) (h2 := _) (h1 := e0) (Z4i hr1) rfl (.cons (avAs_free rfl) (.cons (avAs_free rfl) .nil)) (hsub_refl _) (.nil _) (fun _ => rfl) (by decide) (by decide) (.cons (avAs_free rfl) (.cons (avAs_free rfl) .nil)) .nil ?_
  rintro _ _ _ hn ⟨z_, hz_, rfl, rfl, rfl⟩
  refine ⟨.inl rfl, (upd (rem [] _) 5 (lstB z_ 5 (r_2.map e_TJTimer))), fun hbd => (m3_cons (m3_row rfl (fr_map fun _ => rfl)) (m3_rem (in_nil _) (.cons (by decide) .nil) hbd)), (lstV z_ 5 5 r_2.length), 6, (by cases z_ <;> rfl), rfl, ?_⟩
  refine un1 (v := (.c (.ref 0 5 0 4))) rfl <| un <| a2n (h' := upd _ 0 (some (.cells 5 [[cI q0, cI q_.Next, .ro false 7 (q_.Tasks.map e_TJJob), .ro false 7 (q_.Smalls.map e_TJJob), lstC z_ 5 5 r_2.length]]))) (n' := 6) rfl rfl hcs <| dnil ?_
  exact Sv.weak (wcn [0, 1, 2, 4] rfl (.cr rfl rfl rfl (.cr rfl rfl rfl (.cr rfl rfl rfl (.cr rfl rfl rfl .nil)))) (.box (by decide) rfl (blkAs_cells (.sm rfl (.sm rfl (.sm rfl (.sm rfl (.sm rfl (.sm rfl (.sm rfl .nil)))))))) (.box (by decide) rfl (blkAs_cells (.sm rfl (.sm rfl (.sm rfl (.sm rfl (.sm rfl (.sm rfl (.sm rfl .nil)))))))) (.box (by decide) rfl (blkAs_cells (.sm rfl (.sm rfl (.sm rfl (.sm rfl (.sm rfl .nil)))))) (.box (by decide) rfl (blkAs_cells (.sm rfl (.sm rfl (.sm rfl (.sm rfl (.cons (lstC_ro (es := List.map e_TJTimer r_2) rfl (List.length_map e_TJTimer).symm (map_nil_of hz_) (fun b x hx => not_in (bs := [0, 1, 2, 4]) rfl b (((.cons (by decide) (.cons (by decide) (.cons (by decide) (.cons (by decide) .nil)))) : HLt _ _) b x hx)) (fr_map fun _ => rfl)) .nil)))))) .nil))))) (Z4q h hself hK0 hr)
 ·refine Sv.skip ?_
  exact Sv.weak (wcn [0, 1, 2, 4] rfl (.cr rfl rfl rfl (.cr rfl rfl rfl (.cr rfl rfl rfl (.cr rfl rfl rfl .nil)))) (.box (by decide) rfl (blkAs_cells (.sm rfl (.sm rfl (.sm rfl (.sm rfl (.sm rfl (.sm rfl (.sm rfl .nil)))))))) (.box (by decide) rfl (blkAs_cells (.sm rfl (.sm rfl (.sm rfl (.sm rfl (.sm rfl (.sm rfl (.sm rfl .nil)))))))) (.box (by decide) rfl (blkAs_cells (.sm rfl (.sm rfl (.sm rfl (.sm rfl (.sm rfl .nil)))))) (.box (by decide) rfl (blkAs_cells (.sm rfl (.sm rfl (.sm rfl (.sm rfl (.sm rfl .nil)))))) .nil))))) (Z4q h hself hK0 hr)
abbrev Z4s (until_ : Int) (q_ : TJLoop) (F_ : Nat → Option (TJLoop × TJJob × Bool)) (o : (TJLoop × TJJob × Bool)) : Nat → St → Prop := fun k s => F_ k = some o ∧ s = ⟨(ue [(29, (I 0)), (28, (I (q_.Timers.length : Int))), (27, (.c (.ro false 5 (q_.Timers.map e_TJTimer)))), (5, (.c (.ref 2 7 0 0))), (4, (.c (.ref 1 5 0 0))), (2, (.c (.ref 0 5 0 0))), (1, (I until_))]), (upd (upd (upd e0 0 (some (.cells 5 [(e_TJLoop q_)]))) 1 (some (.cells 5 [[cI 0, cI 0, .ro true 7 [], .ro true 7 [], .ro true 5 []]]))) 2 (some (.cells 7 [[cI 0, cI 0, cB false, .str [], cI 0, cI 0, .str []]]))), 3⟩
noncomputable def Zr (q_ : TJLoop) (until_ : Int) (K0_ : Unit → Option (TJLoop × TJJob × Bool)) : Nat → Option (TJLoop × TJJob × Bool)
 | 0 => none
 | k + 1 =>
  if decide (0 < (q_.Timers.length : Int)) then
   (at? q_.Timers 0).bind fun x_1 =>
   if ((decide (q_.Now < x_1.At)) && ((decide (0 < (q_.Tasks.length : Int))) || (decide (until_ < x_1.At)))) then
    K0_ ()
   else
    (sub? q_.Timers 1 (q_.Timers.length : Int)).bind fun r_1 =>
    if decide (q_.Now < x_1.At) then
     Z1r x_1 r_1 q_ until_ (Zr q_ until_ K0_ k) K0_ x_1.At
    else
     Z1r x_1 r_1 q_ until_ (Zr q_ until_ K0_ k) K0_ q_.Now
  else
   K0_ ()
theorem Z7j {Γ : Glob} {Q : AExit → St → Prop} {q_ : TJLoop} {until_ : Int} {K0_ : Unit → Option (TJLoop × TJJob × Bool)} {k : Nat} {o : (TJLoop × TJJob × Bool)} (h : Zr q_ until_ K0_ k = some o)
  (hK0 : Z2z until_ q_ K0_ o (Q (.exit 0)))
  (hr : ∀ s, Ends a13.results 0 (Z2k o) .ret s → Q .ret s) :
  Sv Try.prog Γ 0 (.loop a13_c3) Q ⟨(ue [(29, (I 0)), (28, (I (q_.Timers.length : Int))), (27, (.c (.ro false 5 (q_.Timers.map e_TJTimer)))), (5, (.c (.ref 2 7 0 0))), (4, (.c (.ref 1 5 0 0))), (2, (.c (.ref 0 5 0 0))), (1, (I until_))]), (upd (upd (upd e0 0 (some (.cells 5 [(e_TJLoop q_)]))) 1 (some (.cells 5 [[cI 0, cI 0, .ro true 7 [], .ro true 7 [], .ro true 5 []]]))) 2 (some (.cells 7 [[cI 0, cI 0, cB false, .str [], cI 0, cI 0, .str []]]))), 3⟩ := by
 refine Sv.loop (I := Z4s until_ q_ (Zr q_ until_ K0_) o) (fun k s hI => ?_) ⟨h, rfl⟩
 clear h
 obtain ⟨h, rfl⟩ := hI
 cases k with
 | zero => cases h
 | succ k =>
 rw [Zr] at h
 have hself : Z2y until_ q_ (Zr q_ until_ K0_ k) o (rnd 0 (Z4s until_ q_ (Zr q_ until_ K0_) o) k Q) := fun h s hw => ⟨_, k, hw, Nat.lt_succ_self k, h, rfl⟩
 refine ssr <| un1 (v := (B (decide (0 < (q_.Timers.length : Int))))) rfl <| dnil <| Sv.seq ?_
 refine Sv.cnd rfl h (fun h => ?_) fun h => ?_
 ·refine Sv.skip <| Sv.seq <| Sv.block <| ssr ?_
  obtain ⟨x_1, hx3, h⟩ := bnd h
  refine un1 (v := (.c (.rop (e_TJTimer x_1)))) (s_iaddr (e := e_TJTimer) (xs := q_.Timers) rfl rfl hx3) <| un1 (v := (.agg (e_TJTimer x_1))) rfl <| un <| a2v (v := (.c (.ref 3 5 0 0))) (h' := upd _ 3 (some (.cells 5 [[cI 0, cI 0, cI 0, cI 0, .str []]]))) (n' := 4) rfl rfl hcs <| un <| a2n (h' := upd _ 3 (some (.cells 5 [(e_TJTimer x_1)]))) (n' := 4) rfl rfl hcs <| dnil <| Sv.seq <| ssr <| un1 (v := (.c (.ref 3 5 0 1))) rfl <| un1 (v := (I x_1.At)) rfl <| un1 (v := (.c (.ref 0 5 0 0))) rfl <| un1 (v := (I q_.Now)) rfl <| un1 (v := (B (decide (q_.Now < x_1.At)))) rfl <| un1 rfl ?_
  refine gjoin 11 (d := 49) (v := (B ((decide (q_.Now < x_1.At)) && ((decide (0 < (q_.Tasks.length : Int))) || (decide (until_ < x_1.At)))))) (fun X hX => ?_) ?_
  ·refine split2 (fun hc4 => ?_) (fun hc4 => ?_)
   ·refine gt rfl <| a1 (v := (.c (.ref 0 5 0 2))) rfl <| gt rfl <| a1 (v := (.c (.ro false 7 (q_.Tasks.map e_TJJob)))) rfl <| gt rfl <| a1 (v := (I (q_.Tasks.length : Int))) (s_len (e := e_TJJob) (xs := q_.Tasks) rfl) <| gt rfl <| a1 (v := (B (decide (0 < (q_.Tasks.length : Int))))) rfl <| gt rfl <| a1 rfl ?_
    refine gjoin 5 (d := 48) (v := (B ((decide (0 < (q_.Tasks.length : Int))) || (decide (until_ < x_1.At))))) (fun X hX => ?_) ?_
    ·refine split2 (fun hc3 => ?_) (fun hc3 => ?_)
     ·refine gs rfl rfl <| gs rfl rfl <| gs rfl rfl <| gs rfl rfl <| gt rfl <| a1 (v := (B true)) rfl <| dnil ?_
      exact hX _ (.putEq (by rw [hc3]; rfl) (.skp (.skp (.skp (.skp (.putEq (by rw [hc3]) (.refl _)) rfl) rfl) rfl) rfl))
     ·refine gt rfl <| a1 (v := (.c (.ref 3 5 0 1))) rfl <| gt rfl <| a1 (v := (I x_1.At)) rfl <| gt rfl <| a1 rfl <| gt rfl <| a1 (v := (B (decide (until_ < x_1.At)))) rfl <| gt rfl <| a1 (v := (B (decide (until_ < x_1.At)))) rfl <| dnil ?_
      exact hX _ (.putEq (by rw [hc3]; rfl) (.skp (.skp (.skp (.skp (.putEq (by rw [hc3]) (.refl _)) rfl) rfl) rfl) rfl))
    refine un1 (v := (B ((decide (0 < (q_.Tasks.length : Int))) || (decide (until_ < x_1.At))))) rfl <| dnil ?_
    exact hX _ (.putEq (by rw [hc4]; rfl) (by repeat (first | exact .putEq (by rw [hc4]) (.refl _) | refine .skp ?_ rfl)))
   ·repeat (first | refine gu rfl ?_ | refine gs rfl rfl ?_)
    refine un1 (v := (B false)) rfl <| dnil ?_
    exact hX _ (.putEq (by rw [hc4]; rfl) (by repeat (first | exact .putEq (by rw [hc4]) (.refl _) | refine .skp ?_ rfl)))
  refine dnil ?_
  refine Sv.cnd rfl h (fun h => ?_) fun h => ?_
  ·refine Sv.exit ?_
   exact hK0 () h _ (wcn [0, 1, 2] rfl (.cr rfl rfl rfl (.cr rfl rfl rfl (.cr rfl rfl rfl (.cf rfl rfl .nil)))) (.box (by decide) rfl (blkAs_cells (.sm rfl (.sm rfl (.sm rfl (.sm rfl (.sm rfl (.sm rfl (.sm rfl .nil)))))))) (.box (by decide) rfl (blkAs_cells (.sm rfl (.sm rfl (.sm rfl (.sm rfl (.sm rfl .nil)))))) (.box (by decide) rfl (blkAs_cells (.sm rfl (.sm rfl (.sm rfl (.sm rfl (.sm rfl .nil)))))) .nil))))
  ·refine Sv.skip <| ssr <| un1 (v := (.c (.ref 0 5 0 4))) rfl <| un1 (v := (.c (.ro false 5 (q_.Timers.map e_TJTimer)))) rfl ?_
   obtain ⟨r_1, hx4, h⟩ := bnd h
   refine un1 (v := (.c (.ro false 5 (r_1.map e_TJTimer)))) (s_slSl (e := e_TJTimer) rfl rfl rfl hx4) <| un1 (v := (.c (.ref 0 5 0 4))) rfl <| un <| a2n (h' := upd _ 0 (some (.cells 5 [[cI q_.Now, cI q_.Next, .ro false 7 (q_.Tasks.map e_TJJob), .ro false 7 (q_.Smalls.map e_TJJob), .ro false 5 (r_1.map e_TJTimer)]]))) (n' := 4) rfl rfl hcs <| dnil <| Sv.seq <| ssr <| un1 (v := (.c (.ref 3 5 0 1))) rfl <| un1 (v := (I x_1.At)) rfl <| un1 (v := (.c (.ref 0 5 0 0))) rfl <| un1 (v := (I q_.Now)) rfl <| un1 (v := (B (decide (q_.Now < x_1.At)))) rfl <| dnil ?_
   refine Sv.cnd rfl h (fun h => ?_) fun h => ?_
   ·refine srg <| un1 (v := (.c (.ref 3 5 0 1))) rfl <| un1 (v := (I x_1.At)) rfl <| un1 (v := (.c (.ref 0 5 0 0))) rfl <| un <| a2n (h' := upd _ 0 (some (.cells 5 [[cI x_1.At, cI q_.Next, .ro false 7 (q_.Tasks.map e_TJJob), .ro false 7 (q_.Smalls.map e_TJJob), .ro false 5 (r_1.map e_TJTimer)]]))) (n' := 4) rfl rfl hcs <| dnil ?_
    exact Sv.weak (wcn [0, 1, 2, 3] rfl (.cr rfl rfl rfl (.cr rfl rfl rfl (.cr rfl rfl rfl (.cr rfl rfl rfl .nil)))) (.box (by decide) rfl (blkAs_cells (.sm rfl (.sm rfl (.sm rfl (.sm rfl (.sm rfl .nil)))))) (.box (by decide) rfl (blkAs_cells (.sm rfl (.sm rfl (.sm rfl (.sm rfl (.sm rfl (.sm rfl (.sm rfl .nil)))))))) (.box (by decide) rfl (blkAs_cells (.sm rfl (.sm rfl (.sm rfl (.sm rfl (.sm rfl .nil)))))) (.box (by decide) rfl (blkAs_cells (.sm rfl (.sm rfl (.sm rfl (.sm rfl (.sm rfl .nil)))))) .nil))))) (Z4r h hself hK0 hr)
   ·refine Sv.skip ?_
    exact Sv.weak (wcn [0, 1, 2, 3] rfl (.cr rfl rfl rfl (.cr rfl rfl rfl (.cr rfl rfl rfl (.cr rfl rfl rfl .nil)))) (.box (by decide) rfl (blkAs_cells (.sm rfl (.sm rfl (.sm rfl (.sm rfl (.sm rfl .nil)))))) (.box (by decide) rfl (blkAs_cells (.sm rfl (.sm rfl (.sm rfl (.sm rfl (.sm rfl (.sm rfl (.sm rfl .nil)))))))) (.box (by decide) rfl (blkAs_cells (.sm rfl (.sm rfl (.sm rfl (.sm rfl (.sm rfl .nil)))))) (.box (by decide) rfl (blkAs_cells (.sm rfl (.sm rfl (.sm rfl (.sm rfl (.sm rfl .nil)))))) .nil))))) (Z4r h hself hK0 hr)
 ·refine Sv.exit ?_
  exact hK0 () h _ (wcn [0, 1, 2] rfl (.cr rfl rfl rfl (.cr rfl rfl rfl (.cr rfl rfl rfl (.cf rfl rfl .nil)))) (.box (by decide) rfl (blkAs_cells (.sm rfl (.sm rfl (.sm rfl (.sm rfl (.sm rfl (.sm rfl (.sm rfl .nil)))))))) (.box (by decide) rfl (blkAs_cells (.sm rfl (.sm rfl (.sm rfl (.sm rfl (.sm rfl .nil)))))) (.box (by decide) rfl (blkAs_cells (.sm rfl (.sm rfl (.sm rfl (.sm rfl (.sm rfl .nil)))))) .nil))))
/-- clerestory/clerestoryref4.LoopNext -/
noncomputable def Z2a (q_ : TJLoop) (until_ : Int) : Option (TJLoop × TJJob × Bool) :=
 if decide (0 < (q_.Smalls.length : Int)) then
  (at? q_.Smalls 0).bind fun x_ =>
  (sub? q_.Smalls 1 (q_.Smalls.length : Int)).bind fun r_ =>
  some ((⟨q_.Now, q_.Next, q_.Tasks, r_, q_.Timers⟩ : TJLoop), x_, true)
 else
  lim fun kk => Zr q_ until_ (fun (_ : Unit) => 
    if decide (0 < (q_.Tasks.length : Int)) then
     (at? q_.Tasks 0).bind fun x_2 =>
     (sub? q_.Tasks 1 (q_.Tasks.length : Int)).bind fun r_3 =>
     some ((⟨q_.Now, q_.Next, r_3, q_.Smalls, q_.Timers⟩ : TJLoop), x_2, true)
    else
     some ((⟨until_, q_.Next, q_.Tasks, q_.Smalls, q_.Timers⟩ : TJLoop), (⟨0, 0, false, [], (⟨0, 0, []⟩ : TJVal)⟩ : TJJob), false)) kk
theorem Z7k {Γ : Glob} {q_ : TJLoop} {until_ : Int} {r : (TJLoop × TJJob × Bool)} (h : Z2a q_ until_ = some r) : CPure Try.prog Γ 13 [(.agg (e_TJLoop q_)), (I until_)] (.tup [(.agg (e_TJLoop r.1)), (.agg (e_TJJob r.2.1)), (B r.2.2)]) := by
 refine acalls_of_sv hmix c13 (R := Z2k r) ?_
 unfold Z2a at h
 refine ssr <| un <| a2v (v := (.c (.ref 0 5 0 0))) (h' := upd _ 0 (some (.cells 5 [(e_TJLoop q_)]))) (n' := 1) rfl rfl hcs <| un <| a2v (v := (.c (.ref 1 5 0 0))) (h' := upd _ 1 (some (.cells 5 [[cI 0, cI 0, .ro true 7 [], .ro true 7 [], .ro true 5 []]]))) (n' := 2) rfl rfl hcs <| un <| a2v (v := (.c (.ref 2 7 0 0))) (h' := upd _ 2 (some (.cells 7 [[cI 0, cI 0, cB false, .str [], cI 0, cI 0, .str []]]))) (n' := 3) rfl rfl hcs <| un1 rfl <| dnil <| Sv.seq <| ssr <| un1 (v := (.c (.ref 0 5 0 3))) rfl <| un1 (v := (.c (.ro false 7 (q_.Smalls.map e_TJJob)))) rfl <| un1 (v := (I (q_.Smalls.length : Int))) (s_len (e := e_TJJob) (xs := q_.Smalls) rfl) <| un1 (v := (B (decide (0 < (q_.Smalls.length : Int))))) rfl <| dnil ?_
 refine Sv.cnd rfl h (fun h => ?_) fun h => ?_
 ·refine ssr <| un1 (v := (.c (.ref 0 5 0 3))) rfl <| un1 (v := (.c (.ro false 7 (q_.Smalls.map e_TJJob)))) rfl ?_
  obtain ⟨x_, hx1, h⟩ := bnd h
  refine un1 (v := (.c (.rop (e_TJJob x_)))) (s_iaddr (e := e_TJJob) (xs := q_.Smalls) rfl rfl hx1) <| un1 (v := (.agg (e_TJJob x_))) rfl <| un <| a2v (v := (.c (.ref 3 7 0 0))) (h' := upd _ 3 (some (.cells 7 [[cI 0, cI 0, cB false, .str [], cI 0, cI 0, .str []]]))) (n' := 4) rfl rfl hcs <| un <| a2n (h' := upd _ 3 (some (.cells 7 [(e_TJJob x_)]))) (n' := 4) rfl rfl hcs <| dnil <| ssr <| un1 (v := (.c (.ref 0 5 0 3))) rfl <| un1 (v := (.c (.ro false 7 (q_.Smalls.map e_TJJob)))) rfl ?_
  obtain ⟨r_, hx2, h⟩ := bnd h
  refine un1 (v := (.c (.ro false 7 (r_.map e_TJJob)))) (s_slSl (e := e_TJJob) rfl rfl rfl hx2) <| un1 (v := (.c (.ref 0 5 0 3))) rfl <| un <| a2n (h' := upd _ 0 (some (.cells 5 [[cI q_.Now, cI q_.Next, .ro false 7 (q_.Tasks.map e_TJJob), .ro false 7 (r_.map e_TJJob), .ro false 5 (q_.Timers.map e_TJTimer)]]))) (n' := 4) rfl rfl hcs <| dnil <| Sv.seq <| Sv.drawn2 <| un1 (v := (.agg [cI q_.Now, cI q_.Next, .ro false 7 (q_.Tasks.map e_TJJob), .ro false 7 (r_.map e_TJJob), .ro false 5 (q_.Timers.map e_TJTimer)])) rfl <| dnil ?_
  refine ⟨?_, ?_⟩
  ·refine un1 (v := (.agg (e_TJJob x_))) rfl <| un <| a2n (h' := upd _ 1 (some (.cells 5 [[cI q_.Now, cI q_.Next, .ro false 7 (q_.Tasks.map e_TJJob), .ro false 7 (r_.map e_TJJob), .ro false 5 (q_.Timers.map e_TJTimer)]]))) (n' := 4) rfl rfl hcs <| un <| a2n (h' := upd _ 2 (some (.cells 7 [(e_TJJob x_)]))) (n' := 4) rfl rfl hcs <| un1 rfl <| dnil <| Sv.ret ?_
   exact rt0 h rfl rfl ⟨rfl, rfl, rfl⟩
  ·refine un <| a2n (h' := upd _ 1 (some (.cells 5 [[cI q_.Now, cI q_.Next, .ro false 7 (q_.Tasks.map e_TJJob), .ro false 7 (r_.map e_TJJob), .ro false 5 (q_.Timers.map e_TJTimer)]]))) (n' := 4) rfl rfl hcs <| un1 (v := (.agg (e_TJJob x_))) rfl <| un <| a2n (h' := upd _ 2 (some (.cells 7 [(e_TJJob x_)]))) (n' := 4) rfl rfl hcs <| un1 rfl <| dnil <| Sv.ret ?_
   exact rt0 h rfl rfl ⟨rfl, rfl, rfl⟩
 ·refine Sv.skip <| Sv.seq <| ssr <| un1 (v := (.c (.ref 0 5 0 4))) rfl <| un1 (v := (.c (.ro false 5 (q_.Timers.map e_TJTimer)))) rfl <| un1 (v := (I (q_.Timers.length : Int))) (s_len (e := e_TJTimer) (xs := q_.Timers) rfl) <| un1 rfl <| dnil <| Sv.block ?_
  obtain ⟨kk, h⟩ := lim_some h
  refine Sv.weak (wcn [0, 1, 2] rfl (.cf rfl rfl (.cf rfl rfl (.cf rfl rfl (.cr rfl rfl rfl (.cr rfl rfl rfl (.cr rfl rfl rfl (.cf rfl rfl .nil))))))) (.box (by decide) rfl (blkAs_cells (.sm rfl (.sm rfl (.sm rfl (.sm rfl (.sm rfl (.sm rfl (.sm rfl .nil)))))))) (.box (by decide) rfl (blkAs_cells (.sm rfl (.sm rfl (.sm rfl (.sm rfl (.sm rfl .nil)))))) (.box (by decide) rfl (blkAs_cells (.sm rfl (.sm rfl (.sm rfl (.sm rfl (.sm rfl .nil)))))) .nil)))) (Z7j h ?_ (fun s hs => hs))
  ·intro _ h _ hw1
   refine Sv.weak hw1 <| Sv.seq <| ssr <| un1 (v := (.c (.ref 0 5 0 2))) rfl <| un1 (v := (.c (.ro false 7 (q_.Tasks.map e_TJJob)))) rfl <| un1 (v := (I (q_.Tasks.length : Int))) (s_len (e := e_TJJob) (xs := q_.Tasks) rfl) <| un1 (v := (B (decide (0 < (q_.Tasks.length : Int))))) rfl <| dnil ?_
   refine Sv.cnd rfl h (fun h => ?_) fun h => ?_
   ·refine ssr <| un1 (v := (.c (.ref 0 5 0 2))) rfl <| un1 (v := (.c (.ro false 7 (q_.Tasks.map e_TJJob)))) rfl ?_
    obtain ⟨x_2, hx5, h⟩ := bnd h
    refine un1 (v := (.c (.rop (e_TJJob x_2)))) (s_iaddr (e := e_TJJob) (xs := q_.Tasks) rfl rfl hx5) <| un1 (v := (.agg (e_TJJob x_2))) rfl <| un <| a2v (v := (.c (.ref 3 7 0 0))) (h' := upd _ 3 (some (.cells 7 [[cI 0, cI 0, cB false, .str [], cI 0, cI 0, .str []]]))) (n' := 4) rfl rfl hcs <| un <| a2n (h' := upd _ 3 (some (.cells 7 [(e_TJJob x_2)]))) (n' := 4) rfl rfl hcs <| dnil <| ssr <| un1 (v := (.c (.ref 0 5 0 2))) rfl <| un1 (v := (.c (.ro false 7 (q_.Tasks.map e_TJJob)))) rfl ?_
    obtain ⟨r_3, hx6, h⟩ := bnd h
    refine un1 (v := (.c (.ro false 7 (r_3.map e_TJJob)))) (s_slSl (e := e_TJJob) rfl rfl rfl hx6) <| un1 (v := (.c (.ref 0 5 0 2))) rfl <| un <| a2n (h' := upd _ 0 (some (.cells 5 [[cI q_.Now, cI q_.Next, .ro false 7 (r_3.map e_TJJob), .ro false 7 (q_.Smalls.map e_TJJob), .ro false 5 (q_.Timers.map e_TJTimer)]]))) (n' := 4) rfl rfl hcs <| dnil <| Sv.seq <| Sv.drawn2 <| un1 (v := (.agg [cI q_.Now, cI q_.Next, .ro false 7 (r_3.map e_TJJob), .ro false 7 (q_.Smalls.map e_TJJob), .ro false 5 (q_.Timers.map e_TJTimer)])) rfl <| dnil ?_
    refine ⟨?_, ?_⟩
    ·refine un1 (v := (.agg (e_TJJob x_2))) rfl <| un <| a2n (h' := upd _ 1 (some (.cells 5 [[cI q_.Now, cI q_.Next, .ro false 7 (r_3.map e_TJJob), .ro false 7 (q_.Smalls.map e_TJJob), .ro false 5 (q_.Timers.map e_TJTimer)]]))) (n' := 4) rfl rfl hcs <| un <| a2n (h' := upd _ 2 (some (.cells 7 [(e_TJJob x_2)]))) (n' := 4) rfl rfl hcs <| un1 rfl <| dnil <| Sv.ret ?_
     exact rt0 h rfl rfl ⟨rfl, rfl, rfl⟩
    ·refine un <| a2n (h' := upd _ 1 (some (.cells 5 [[cI q_.Now, cI q_.Next, .ro false 7 (r_3.map e_TJJob), .ro false 7 (q_.Smalls.map e_TJJob), .ro false 5 (q_.Timers.map e_TJTimer)]]))) (n' := 4) rfl rfl hcs <| un1 (v := (.agg (e_TJJob x_2))) rfl <| un <| a2n (h' := upd _ 2 (some (.cells 7 [(e_TJJob x_2)]))) (n' := 4) rfl rfl hcs <| un1 rfl <| dnil <| Sv.ret ?_
     exact rt0 h rfl rfl ⟨rfl, rfl, rfl⟩
   ·refine Sv.skip <| ssr <| un1 rfl <| un1 (v := (.c (.ref 0 5 0 0))) rfl <| un <| a2n (h' := upd _ 0 (some (.cells 5 [[cI until_, cI q_.Next, .ro false 7 (q_.Tasks.map e_TJJob), .ro false 7 (q_.Smalls.map e_TJJob), .ro false 5 (q_.Timers.map e_TJTimer)]]))) (n' := 3) rfl rfl hcs <| dnil <| ssr <| un1 (v := (.agg [cI until_, cI q_.Next, .ro false 7 (q_.Tasks.map e_TJJob), .ro false 7 (q_.Smalls.map e_TJJob), .ro false 5 (q_.Timers.map e_TJTimer)])) rfl <| un1 (v := (.agg [cI 0, cI 0, cB false, .str [], cI 0, cI 0, .str []])) rfl <| un <| a2n (h' := upd _ 1 (some (.cells 5 [[cI until_, cI q_.Next, .ro false 7 (q_.Tasks.map e_TJJob), .ro false 7 (q_.Smalls.map e_TJJob), .ro false 5 (q_.Timers.map e_TJTimer)]]))) (n' := 3) rfl rfl hcs <| un <| a2n (h' := upd _ 2 (some (.cells 7 [[cI 0, cI 0, cB false, .str [], cI 0, cI 0, .str []]]))) (n' := 3) rfl rfl hcs <| un1 rfl <| dnil <| Sv.ret ?_
    exact rt0 h rfl rfl ⟨rfl, rfl, rfl⟩
def a3_c0 : ACode := .ret
def a3_c1 : ACode := (sr [(oP 76 (.load true 5 (.tmp 3))), (oP 77 (.load true 7 (.tmp 4))), (oP 78 (.call 11 [(.tmp 76), (.tmp 77)])), (mV 75 78), (oP 79 (.ext (.tmp 75) 0)), (oP 80 (.ext (.tmp 75) 1)), (oP 81 (.ext (.tmp 75) 2)), (oP 15 (.box (.const (.agg [(.val (.int .i64 0)), (.val (.int .i64 0)), (.ro true 7 []), (.ro true 7 []), (.ro true 5 [])])))), (oN (.store 5 (.tmp 15) (.tmp 79))), (mV 16 80), (mV 17 81)]
 (.seq (sr [(oP 82 (.load true 5 (.tmp 7))), (oP 83 (.load true 5 (.tmp 15))), (oP 84 (.call 10 [(.tmp 82), (.tmp 83)])), (oP 85 (.un .not (.tmp 84))), (mV 86 85), ⟨(some 87), (.mov (.tmp 8)), (some (86, false))⟩, ⟨(some 88), (.mov (.tmp 16)), (some (86, false))⟩, ⟨(some 89), (.bin .neq (.tmp 87) (.tmp 88)), (some (86, false))⟩, (oP 90 (.pick (.tmp 86) kT (.tmp 89))), (mV 91 90), ⟨(some 92), (.mov (.tmp 9)), (some (91, false))⟩, ⟨(some 93), (.mov (.tmp 17)), (some (91, false))⟩, ⟨(some 94), (.bin .neq (.tmp 92) (.tmp 93)), (some (91, false))⟩, (oP 95 (.pick (.tmp 91) kT (.tmp 94)))]
 (.cond (.tmp 95) (sr [(oP 6 (.mov kF))]
 .ret) .skip))
 (.seq (sr [(mV 96 2), (oP 97 (.faddr 0 (.tmp 3))), (oP 98 (.load false 1 (.tmp 97))), (oP 99 (.call 12 [(.tmp 96), (.tmp 98), (kI 1000000000)])), (oP 100 (.un .not (.tmp 99)))]
 (.cond (.tmp 100) (sr [(oP 101 (.load true 5 (.tmp 10))), (oP 102 (.build [(.val (.int .i64 0)), (.val (.int .i64 0)), (.ro true 7 []), (.ro true 7 []), (.ro true 5 [])] [])), (oP 103 (.call 10 [(.tmp 101), (.tmp 102)])), (mV 104 103), ⟨(some 105), (.load true 7 (.tmp 11)), (some (104, true))⟩, ⟨(some 106), (.build [(.val (.int .i64 0)), (.val (.int .i64 0)), (.val (.bool false)), (.str []), (.val (.int .i64 0)), (.val (.int .i64 0)), (.str [])] []), (some (104, true))⟩, ⟨(some 107), (.eqs false true [.i, .i, .b, .s, .i, .i, .s] (.tmp 105) (.tmp 106)), (some (104, true))⟩, (oP 108 (.pick (.tmp 104) (.tmp 107) kF)), (mV 109 108), ⟨(some 110), (.mov (.tmp 12)), (some (109, true))⟩, ⟨(some 111), (.un .not (.tmp 110)), (some (109, true))⟩, (oP 112 (.pick (.tmp 109) (.tmp 111) kF)), (mV 113 112), ⟨(some 114), (.mov (.tmp 13)), (some (113, true))⟩, ⟨(some 115), (.bin .eql (.tmp 114) (kI 1)), (some (113, true))⟩, (oP 116 (.pick (.tmp 113) (.tmp 115) kF)), (mV 6 116)]
 .ret) .skip))
 (sr [(oP 118 (.load true 5 (.tmp 3))), (mV 119 2), (oP 120 (.call 13 [(.tmp 118), (.tmp 119)])), (mV 117 120), (oP 121 (.ext (.tmp 117) 0)), (oP 122 (.ext (.tmp 117) 1)), (oP 123 (.ext (.tmp 117) 2)), (oP 18 (.box (.const (.agg [(.val (.int .i64 0)), (.val (.int .i64 0)), (.ro true 7 []), (.ro true 7 []), (.ro true 5 [])])))), (oP 19 (.box (.const (.agg [(.val (.int .i64 0)), (.val (.int .i64 0)), (.val (.bool false)), (.str []), (.val (.int .i64 0)), (.val (.int .i64 0)), (.str [])])))), (oN (.store 5 (.tmp 18) (.tmp 121))), (oN (.store 7 (.tmp 19) (.tmp 122))), (mV 20 123)]
 (sr [(oP 124 (.load true 5 (.tmp 10))), (oP 125 (.load true 5 (.tmp 18))), (oP 126 (.call 10 [(.tmp 124), (.tmp 125)])), (mV 127 126), ⟨(some 128), (.load true 7 (.tmp 11)), (some (127, true))⟩, ⟨(some 129), (.load true 7 (.tmp 19)), (some (127, true))⟩, ⟨(some 130), (.eqs false true [.i, .i, .b, .s, .i, .i, .s] (.tmp 128) (.tmp 129)), (some (127, true))⟩, (oP 131 (.pick (.tmp 127) (.tmp 130) kF)), (mV 132 131), ⟨(some 133), (.mov (.tmp 12)), (some (132, true))⟩, ⟨(some 134), (.mov (.tmp 20)), (some (132, true))⟩, ⟨(some 135), (.eqs false false [.b] (.tmp 133) (.tmp 134)), (some (132, true))⟩, (oP 136 (.pick (.tmp 132) (.tmp 135) kF)), (mV 137 136), ⟨(some 138), (.mov (.tmp 13)), (some (137, true))⟩, ⟨(some 139), (.bin .eql (.tmp 138) (kI 0)), (some (137, true))⟩, (oP 140 (.pick (.tmp 137) (.tmp 139) kF)), (mV 6 140)]
 .ret)))))
def a3 : AFunc := ⟨3, [(.tmp 6)], (sr [(oP 3 (.box (.tmp 0))), (oP 4 (.box (.tmp 1))), (oP 6 (.mov kF))]
 (sr [(oP 22 (.load true 5 (.tmp 3))), (oP 23 (.load true 7 (.tmp 4))), (oP 24 (.call 6 [(.tmp 22), (.tmp 23)])), (mV 21 24), (oP 25 (.ext (.tmp 21) 0)), (oP 26 (.ext (.tmp 21) 1)), (oP 27 (.ext (.tmp 21) 2)), (oP 7 (.box (.const (.agg [(.val (.int .i64 0)), (.val (.int .i64 0)), (.ro true 7 []), (.ro true 7 []), (.ro true 5 [])])))), (oN (.store 5 (.tmp 7) (.tmp 25))), (mV 8 26), (mV 9 27)]
 (sr [(oP 29 (.load true 5 (.tmp 3))), (mV 30 2), (oP 31 (.call 7 [(.tmp 29), (.tmp 30)])), (mV 28 31), (oP 32 (.ext (.tmp 28) 0)), (oP 33 (.ext (.tmp 28) 1)), (oP 34 (.ext (.tmp 28) 2)), (oP 35 (.ext (.tmp 28) 3)), (oP 10 (.box (.const (.agg [(.val (.int .i64 0)), (.val (.int .i64 0)), (.ro true 7 []), (.ro true 7 []), (.ro true 5 [])])))), (oP 11 (.box (.const (.agg [(.val (.int .i64 0)), (.val (.int .i64 0)), (.val (.bool false)), (.str []), (.val (.int .i64 0)), (.val (.int .i64 0)), (.str [])])))), (oN (.store 5 (.tmp 10) (.tmp 32))), (oN (.store 7 (.tmp 11) (.tmp 33))), (mV 12 34), (mV 13 35)]
 (sr [(oP 36 (.load true 5 (.tmp 3))), (oP 37 (.call 8 [(.tmp 36)])), (mV 14 37)]
 (.seq (sr [(oP 38 (.load true 5 (.tmp 3))), (oP 39 (.call 9 [(.tmp 38)])), (mV 40 14), (oP 41 (.bin .neq (.tmp 39) (.tmp 40)))]
 (.cond (.tmp 41) (sr [(oP 6 (.mov kF))]
 .ret) .skip))
 (.seq (sr [(mV 42 14), (oP 43 (.bin .neq (.tmp 42) (kI 0)))]
 (.cond (.tmp 43) (sr [(oP 44 (.load true 5 (.tmp 7))), (oP 45 (.build [(.val (.int .i64 0)), (.val (.int .i64 0)), (.ro true 7 []), (.ro true 7 []), (.ro true 5 [])] [])), (oP 46 (.call 10 [(.tmp 44), (.tmp 45)])), (mV 47 46), ⟨(some 48), (.mov (.tmp 8)), (some (47, true))⟩, ⟨(some 49), (.bin .eql (.tmp 48) (kI 0)), (some (47, true))⟩, (oP 50 (.pick (.tmp 47) (.tmp 49) kF)), (mV 51 50), ⟨(some 52), (.mov (.tmp 9)), (some (51, true))⟩, ⟨(some 53), (.mov (.tmp 14)), (some (51, true))⟩, ⟨(some 54), (.bin .eql (.tmp 52) (.tmp 53)), (some (51, true))⟩, (oP 55 (.pick (.tmp 51) (.tmp 54) kF)), (mV 56 55), ⟨(some 57), (.load true 5 (.tmp 10)), (some (56, true))⟩, ⟨(some 58), (.build [(.val (.int .i64 0)), (.val (.int .i64 0)), (.ro true 7 []), (.ro true 7 []), (.ro true 5 [])] []), (some (56, true))⟩, ⟨(some 59), (.call 10 [(.tmp 57), (.tmp 58)]), (some (56, true))⟩, (oP 60 (.pick (.tmp 56) (.tmp 59) kF)), (mV 61 60), ⟨(some 62), (.load true 7 (.tmp 11)), (some (61, true))⟩, ⟨(some 63), (.build [(.val (.int .i64 0)), (.val (.int .i64 0)), (.val (.bool false)), (.str []), (.val (.int .i64 0)), (.val (.int .i64 0)), (.str [])] []), (some (61, true))⟩, ⟨(some 64), (.eqs false true [.i, .i, .b, .s, .i, .i, .s] (.tmp 62) (.tmp 63)), (some (61, true))⟩, (oP 65 (.pick (.tmp 61) (.tmp 64) kF)), (mV 66 65), ⟨(some 67), (.mov (.tmp 12)), (some (66, true))⟩, ⟨(some 68), (.un .not (.tmp 67)), (some (66, true))⟩, (oP 69 (.pick (.tmp 66) (.tmp 68) kF)), (mV 70 69), ⟨(some 71), (.mov (.tmp 13)), (some (70, true))⟩, ⟨(some 72), (.mov (.tmp 14)), (some (70, true))⟩, ⟨(some 73), (.bin .eql (.tmp 71) (.tmp 72)), (some (70, true))⟩, (oP 74 (.pick (.tmp 70) (.tmp 73) kF)), (mV 6 74)]
 a3_c0) .skip))
 a3_c1))))))⟩
theorem c3 : compFunc Try.prog 3 = some a3 := by kernel_rfl
def Z30 (r : Bool) : AV → Heap → Nat → Prop := fun v h' n' => v = (B r) ∧ (h' = e0) ∧ n' = 0
abbrev Z7l (Γ : Glob) (o : Bool) : AExit → St → Prop := AThen (Sv Try.prog Γ 0 a3_c1 (Ends a3.results 0 (Z30 o))) (Ends a3.results 0 (Z30 o))
noncomputable def Z2b (v6 : Bool) : Option Bool :=
 some v6
theorem Z4t {Γ : Glob} {v6 : Bool} {o : Bool} (h : Z2b v6 = some o) :
  Sv Try.prog Γ 0 a3_c0 (Z7l Γ o) ⟨(upd e0 6 (some (B v6))), e0, 0⟩ := by
 unfold Z2b at h
 refine Sv.ret ?_
 exact rt0 h rfl rfl ⟨rfl, rfl, rfl⟩
/-- clerestory/clerestorylaw4.LoopSteps -/
noncomputable def Z2l (q_ : TJLoop) (a_ : TJAsk) (until_ : Int) : Option Bool :=
 (Zn q_ a_).bind fun r_ =>
 (Z1z q_ until_).bind fun r_1 =>
 (Z22 q_).bind fun r_2 =>
 (Zz q_).bind fun r_3 =>
 if (!decide (r_3 = r_2)) then
  some false
 else
  if (!decide (r_2 = 0)) then
   (Zd r_.1 (⟨0, 0, [], [], []⟩ : TJLoop)).bind fun r_4 =>
   if ((r_4 && (decide (r_.2.1 = 0))) && (decide (r_.2.2 = r_2))) then
    (Zd r_1.1 (⟨0, 0, [], [], []⟩ : TJLoop)).bind fun r_5 =>
    Z2b (((r_5 && (decide (r_1.2.1.ID = 0) && (decide (r_1.2.1.Source = 0) && ((r_1.2.1.Small == false) && (decide (r_1.2.1.Call = []) && (decide (r_1.2.1.Arg.Kind = 0) && (decide (r_1.2.1.Arg.N = 0) && (decide (r_1.2.1.Arg.S = []) && true)))))))) && (!r_1.2.2.1)) && (decide (r_1.2.2.2 = r_2)))
   else
    Z2b false
  else
   (Z5 q_ a_).bind fun r_6 =>
   (Zd r_.1 r_6.1).bind fun r_7 =>
   if (((!r_7) || (!decide (r_.2.1 = r_6.2.1))) || (!decide (r_.2.2 = r_6.2.2))) then
    some false
   else
    if (!(Z2 until_ q_.Now 1000000000)) then
     (Zd r_1.1 (⟨0, 0, [], [], []⟩ : TJLoop)).bind fun r_8 =>
     some (((r_8 && (decide (r_1.2.1.ID = 0) && (decide (r_1.2.1.Source = 0) && ((r_1.2.1.Small == false) && (decide (r_1.2.1.Call = []) && (decide (r_1.2.1.Arg.Kind = 0) && (decide (r_1.2.1.Arg.N = 0) && (decide (r_1.2.1.Arg.S = []) && true)))))))) && (!r_1.2.2.1)) && (decide (r_1.2.2.2 = 1)))
    else
     (Z2a q_ until_).bind fun r_9 =>
     (Zd r_1.1 r_9.1).bind fun r_10 =>
     some (((r_10 && (decide (r_1.2.1.ID = r_9.2.1.ID) && (decide (r_1.2.1.Source = r_9.2.1.Source) && ((r_1.2.1.Small == r_9.2.1.Small) && (decide (r_1.2.1.Call = r_9.2.1.Call) && (decide (r_1.2.1.Arg.Kind = r_9.2.1.Arg.Kind) && (decide (r_1.2.1.Arg.N = r_9.2.1.Arg.N) && (decide (r_1.2.1.Arg.S = r_9.2.1.Arg.S) && true)))))))) && ((r_1.2.2.1 == r_9.2.2) && true)) && (decide (r_1.2.2.2 = 0)))
theorem Z7m {Γ : Glob} {q_ : TJLoop} {a_ : TJAsk} {until_ : Int} {r : Bool} (h : Z2l q_ a_ until_ = some r) : CPure Try.prog Γ 3 [(.agg (e_TJLoop q_)), (.agg (e_TJAsk a_)), (I until_)] (B r) := by
 refine acalls_of_sv hmix c3 (R := Z30 r) ?_
 unfold Z2l at h
 refine ssr <| un <| a2v (v := (.c (.ref 0 5 0 0))) (h' := upd _ 0 (some (.cells 5 [(e_TJLoop q_)]))) (n' := 1) rfl rfl hcs <| un <| a2v (v := (.c (.ref 1 7 0 0))) (h' := upd _ 1 (some (.cells 7 [(e_TJAsk a_)]))) (n' := 2) rfl rfl hcs <| un1 rfl <| dnil <| ssr <| un1 (v := (.agg (e_TJLoop q_))) rfl <| un1 (v := (.agg (e_TJAsk a_))) rfl ?_
 obtain ⟨r_, hr1, h⟩ := bnd h
 refine un <| ac_gen (bs := []) («as» := [(.agg (e_TJLoop q_)), (.agg (e_TJAsk a_))]) (h2 := _) (h1 := e0) (Z6c hr1) rfl (.cons (avAs_free rfl) (.cons (avAs_free rfl) .nil)) (hsub_refl _) (.nil _) (fun _ => rfl) (by decide) (by decide) (.cons (avAs_free rfl) (.cons (avAs_free rfl) .nil)) .nil ?_
 rintro _ _ _ hn ⟨z_, hz_, z_1, hz_1, z_2, hz_2, rfl, rfl, rfl⟩
 refine ⟨.inl rfl, (upd (upd (upd (rem [] _) 2 (lstB z_ 7 (r_.1.Tasks.map e_TJJob))) 3 (lstB z_1 7 (r_.1.Smalls.map e_TJJob))) 4 (lstB z_2 5 (r_.1.Timers.map e_TJTimer))), fun hbd => (m3_cons (m3_row rfl (fr_map fun _ => rfl)) (m3_cons (m3_row rfl (fr_map fun _ => rfl)) (m3_cons (m3_row rfl (fr_map fun _ => rfl)) (m3_rem (in_nil _) (.cons (by decide) (.cons (by decide) (.cons (by decide) .nil))) hbd)))), (.tup [(.agg [cI r_.1.Now, cI r_.1.Next, lstC z_ 2 7 r_.1.Tasks.length, lstC z_1 3 7 r_.1.Smalls.length, lstC z_2 4 5 r_.1.Timers.length]), (I r_.2.1), (I r_.2.2)]), 5, (by cases z_ <;> cases z_1 <;> cases z_2 <;> rfl), rfl, ?_⟩
 refine un1 rfl <| un1 (v := (.agg [cI r_.1.Now, cI r_.1.Next, lstC z_ 2 7 r_.1.Tasks.length, lstC z_1 3 7 r_.1.Smalls.length, lstC z_2 4 5 r_.1.Timers.length])) rfl <| un1 (v := (I r_.2.1)) rfl <| un1 (v := (I r_.2.2)) rfl <| un <| a2v (v := (.c (.ref 5 5 0 0))) (h' := upd _ 5 (some (.cells 5 [[cI 0, cI 0, .ro true 7 [], .ro true 7 [], .ro true 5 []]]))) (n' := 6) rfl rfl hcs <| un <| a2n (h' := upd _ 5 (some (.cells 5 [[cI r_.1.Now, cI r_.1.Next, lstC z_ 2 7 r_.1.Tasks.length, lstC z_1 3 7 r_.1.Smalls.length, lstC z_2 4 5 r_.1.Timers.length]]))) (n' := 6) rfl rfl hcs <| un1 rfl <| un1 rfl <| dnil <| ssr <| un1 (v := (.agg (e_TJLoop q_))) rfl <| un1 rfl ?_
 obtain ⟨r_1, hr2, h⟩ := bnd h
 refine un <| ac_gen (bs := []) («as» := [(.agg (e_TJLoop q_)), (I until_)]) (h2 := _) (h1 := e0) (Z6f hr2) rfl (.cons (avAs_free rfl) (.cons (avAs_free rfl) .nil)) (hsub_refl _) (.nil _) (fun _ => rfl) (by decide) (by decide) (.cons (avAs_free rfl) (.cons (avAs_free rfl) .nil)) .nil ?_
 rintro _ _ _ hn ⟨z_3, hz_3, z_4, hz_4, z_5, hz_5, rfl, rfl, rfl⟩
 refine ⟨.inl rfl, (upd (upd (upd (rem [] _) 6 (lstB z_3 7 (r_1.1.Tasks.map e_TJJob))) 7 (lstB z_4 7 (r_1.1.Smalls.map e_TJJob))) 8 (lstB z_5 5 (r_1.1.Timers.map e_TJTimer))), fun hbd => (m3_cons (m3_row rfl (fr_map fun _ => rfl)) (m3_cons (m3_row rfl (fr_map fun _ => rfl)) (m3_cons (m3_row rfl (fr_map fun _ => rfl)) (m3_rem (in_nil _) (.cons (by decide) (.cons (by decide) (.cons (by decide) .nil))) hbd)))), (.tup [(.agg [cI r_1.1.Now, cI r_1.1.Next, lstC z_3 6 7 r_1.1.Tasks.length, lstC z_4 7 7 r_1.1.Smalls.length, lstC z_5 8 5 r_1.1.Timers.length]), (.agg (e_TJJob r_1.2.1)), (B r_1.2.2.1), (I r_1.2.2.2)]), 9, (by cases z_3 <;> cases z_4 <;> cases z_5 <;> rfl), rfl, ?_⟩
 refine un1 rfl <| un1 (v := (.agg [cI r_1.1.Now, cI r_1.1.Next, lstC z_3 6 7 r_1.1.Tasks.length, lstC z_4 7 7 r_1.1.Smalls.length, lstC z_5 8 5 r_1.1.Timers.length])) rfl <| un1 (v := (.agg (e_TJJob r_1.2.1))) rfl <| un1 (v := (B r_1.2.2.1)) rfl <| un1 (v := (I r_1.2.2.2)) rfl <| un <| a2v (v := (.c (.ref 9 5 0 0))) (h' := upd _ 9 (some (.cells 5 [[cI 0, cI 0, .ro true 7 [], .ro true 7 [], .ro true 5 []]]))) (n' := 10) rfl rfl hcs <| un <| a2v (v := (.c (.ref 10 7 0 0))) (h' := upd _ 10 (some (.cells 7 [[cI 0, cI 0, cB false, .str [], cI 0, cI 0, .str []]]))) (n' := 11) rfl rfl hcs <| un <| a2n (h' := upd _ 9 (some (.cells 5 [[cI r_1.1.Now, cI r_1.1.Next, lstC z_3 6 7 r_1.1.Tasks.length, lstC z_4 7 7 r_1.1.Smalls.length, lstC z_5 8 5 r_1.1.Timers.length]]))) (n' := 11) rfl rfl hcs <| un <| a2n (h' := upd _ 10 (some (.cells 7 [(e_TJJob r_1.2.1)]))) (n' := 11) rfl rfl hcs <| un1 rfl <| un1 rfl <| dnil <| ssr <| un1 (v := (.agg (e_TJLoop q_))) rfl ?_
 obtain ⟨r_2, hr3, h⟩ := bnd h
 refine un <| ac_pure (Z6z hr3) rfl rfl rfl <| un1 rfl <| dnil <| Sv.seq <| ssr <| un1 (v := (.agg (e_TJLoop q_))) rfl ?_
 obtain ⟨r_3, hr4, h⟩ := bnd h
 refine un <| ac_pure (Z2o hr4) rfl rfl rfl <| un1 rfl <| un1 (v := (B (!decide (r_3 = r_2)))) rfl <| dnil ?_
 refine Sv.cnd rfl h (fun h => ?_) fun h => ?_
 ·refine ssr <| un1 rfl <| dnil <| Sv.ret ?_
  exact rt0 h rfl rfl ⟨rfl, rfl, rfl⟩
 ·refine Sv.skip <| Sv.seq <| ssr <| un1 rfl <| un1 (v := (B (!decide (r_2 = 0)))) rfl <| dnil ?_
  refine Sv.cnd rfl h (fun h => ?_) fun h => ?_
  ·refine ssr <| un1 (v := (.agg [cI r_.1.Now, cI r_.1.Next, lstC z_ 2 7 r_.1.Tasks.length, lstC z_1 3 7 r_.1.Smalls.length, lstC z_2 4 5 r_.1.Timers.length])) rfl <| un1 (v := (.agg [cI 0, cI 0, .ro true 7 [], .ro true 7 [], .ro true 5 []])) rfl ?_
   obtain ⟨r_4, hr5, h⟩ := bnd h
   refine un <| ac_lend (h2 := (upd (upd (upd _ 2 none) 3 none) 4 none)) (Z24 hr5) rfl (.cons (avAs_agg (.sm rfl (.sm rfl (.cons (lstC_ro (es := List.map e_TJJob r_.1.Tasks) rfl (List.length_map e_TJJob).symm (map_nil_of hz_) (gone rfl) (fr_map fun _ => rfl)) (.cons (lstC_ro (es := List.map e_TJJob r_.1.Smalls) rfl (List.length_map e_TJJob).symm (map_nil_of hz_1) (gone rfl) (fr_map fun _ => rfl)) (.cons (lstC_ro (es := List.map e_TJTimer r_.1.Timers) rfl (List.length_map e_TJTimer).symm (map_nil_of hz_2) (gone rfl) (fr_map fun _ => rfl)) .nil)))))) (.cons (avAs_agg (.sm rfl (.sm rfl (.cons .nil (.cons .nil (.cons .nil .nil)))))) .nil)) (hsub_none (hsub_none (hsub_none (hsub_refl _)))) rfl rfl (.inr rfl) <| un1 rfl ?_
   refine gjoin 3 (d := 50) (v := (B (r_4 && (decide (r_.2.1 = 0))))) (fun X hX => ?_) ?_
   ·refine split2 (fun hc3 => ?_) (fun hc3 => ?_)
    ·refine gt rfl <| a1 rfl <| gt rfl <| a1 (v := (B (decide (r_.2.1 = 0)))) rfl <| un1 (v := (B (decide (r_.2.1 = 0)))) rfl <| dnil ?_
     exact hX _ (.putEq (by rw [hc3]; rfl) (.skp (.skp (.putEq (by rw [hc3]) (.refl _)) rfl) rfl))
    ·refine gs rfl rfl <| gs rfl rfl <| un1 (v := (B false)) rfl <| dnil ?_
     exact hX _ (.putEq (by rw [hc3]; rfl) (.skp (.skp (.putEq (by rw [hc3]) (.refl _)) rfl) rfl))
   refine un1 rfl ?_
   refine gjoin 4 (d := 55) (v := (B ((r_4 && (decide (r_.2.1 = 0))) && (decide (r_.2.2 = r_2))))) (fun X hX => ?_) ?_
   ·refine split2 (fun hc4 => ?_) (fun hc4 => ?_)
    ·refine gt rfl <| a1 rfl <| gt rfl <| a1 rfl <| gt rfl <| a1 (v := (B (decide (r_.2.2 = r_2)))) rfl <| un1 (v := (B (decide (r_.2.2 = r_2)))) rfl <| dnil ?_
     exact hX _ (.putEq (by rw [hc4]; rfl) (.skp (.skp (.skp (.putEq (by rw [hc4]) (.refl _)) rfl) rfl) rfl))
    ·refine gs rfl rfl <| gs rfl rfl <| gs rfl rfl <| un1 (v := (B false)) rfl <| dnil ?_
     exact hX _ (.putEq (by rw [hc4]; rfl) (.skp (.skp (.skp (.putEq (by rw [hc4]) (.refl _)) rfl) rfl) rfl))
   refine un1 rfl ?_
   refine spl h (fun h => ?_) fun h => ?_
   ·refine gt rfl <| a1 (v := (.agg [cI r_1.1.Now, cI r_1.1.Next, lstC z_3 6 7 r_1.1.Tasks.length, lstC z_4 7 7 r_1.1.Smalls.length, lstC z_5 8 5 r_1.1.Timers.length])) rfl <| gt rfl <| a1 (v := (.agg [cI 0, cI 0, .ro true 7 [], .ro true 7 [], .ro true 5 []])) rfl ?_
    obtain ⟨r_5, hr6, h⟩ := bnd h
    refine gt rfl <| ac_lend (h2 := (upd (upd (upd _ 6 none) 7 none) 8 none)) (Z24 hr6) rfl (.cons (avAs_agg (.sm rfl (.sm rfl (.cons (lstC_ro (es := List.map e_TJJob r_1.1.Tasks) rfl (List.length_map e_TJJob).symm (map_nil_of hz_3) (gone rfl) (fr_map fun _ => rfl)) (.cons (lstC_ro (es := List.map e_TJJob r_1.1.Smalls) rfl (List.length_map e_TJJob).symm (map_nil_of hz_4) (gone rfl) (fr_map fun _ => rfl)) (.cons (lstC_ro (es := List.map e_TJTimer r_1.1.Timers) rfl (List.length_map e_TJTimer).symm (map_nil_of hz_5) (gone rfl) (fr_map fun _ => rfl)) .nil)))))) (.cons (avAs_agg (.sm rfl (.sm rfl (.cons .nil (.cons .nil (.cons .nil .nil)))))) .nil)) (hsub_none (hsub_none (hsub_none (hsub_refl _)))) rfl rfl (.inr rfl) <| un1 (v := (B r_5)) rfl <| un1 rfl ?_
    refine gjoin 4 (d := 65) (v := (B (r_5 && (decide (r_1.2.1.ID = 0) && (decide (r_1.2.1.Source = 0) && ((r_1.2.1.Small == false) && (decide (r_1.2.1.Call = []) && (decide (r_1.2.1.Arg.Kind = 0) && (decide (r_1.2.1.Arg.N = 0) && (decide (r_1.2.1.Arg.S = []) && true)))))))))) (fun X hX => ?_) ?_
    ·refine split2 (fun hc6 => ?_) (fun hc6 => ?_)
     ·refine gt rfl <| a1 (v := (.agg (e_TJJob r_1.2.1))) rfl <| gt rfl <| a1 (v := (.agg [cI 0, cI 0, cB false, .str [], cI 0, cI 0, .str []])) rfl <| gt rfl <| a1 (v := (B (decide (r_1.2.1.ID = 0) && (decide (r_1.2.1.Source = 0) && ((r_1.2.1.Small == false) && (decide (r_1.2.1.Call = []) && (decide (r_1.2.1.Arg.Kind = 0) && (decide (r_1.2.1.Arg.N = 0) && (decide (r_1.2.1.Arg.S = []) && true))))))))) rfl <| un1 (v := (B (decide (r_1.2.1.ID = 0) && (decide (r_1.2.1.Source = 0) && ((r_1.2.1.Small == false) && (decide (r_1.2.1.Call = []) && (decide (r_1.2.1.Arg.Kind = 0) && (decide (r_1.2.1.Arg.N = 0) && (decide (r_1.2.1.Arg.S = []) && true))))))))) rfl <| dnil ?_
      exact hX _ (.putEq (by rw [hc6]; rfl) (.skp (.skp (.skp (.putEq (by rw [hc6]) (.refl _)) rfl) rfl) rfl))
     ·refine gs rfl rfl <| gs rfl rfl <| gs rfl rfl <| un1 (v := (B false)) rfl <| dnil ?_
      exact hX _ (.putEq (by rw [hc6]; rfl) (.skp (.skp (.skp (.putEq (by rw [hc6]) (.refl _)) rfl) rfl) rfl))
    refine un1 rfl ?_
    refine gjoin 3 (d := 69) (v := (B ((r_5 && (decide (r_1.2.1.ID = 0) && (decide (r_1.2.1.Source = 0) && ((r_1.2.1.Small == false) && (decide (r_1.2.1.Call = []) && (decide (r_1.2.1.Arg.Kind = 0) && (decide (r_1.2.1.Arg.N = 0) && (decide (r_1.2.1.Arg.S = []) && true)))))))) && (!r_1.2.2.1)))) (fun X hX => ?_) ?_
    ·refine split2 (fun hc7 => ?_) (fun hc7 => ?_)
     ·refine gt rfl <| a1 rfl <| gt rfl <| a1 (v := (B (!r_1.2.2.1))) rfl <| un1 (v := (B (!r_1.2.2.1))) rfl <| dnil ?_
      exact hX _ (.putEq (by rw [hc7]; rfl) (.skp (.skp (.putEq (by rw [hc7]) (.refl _)) rfl) rfl))
     ·refine gs rfl rfl <| gs rfl rfl <| un1 (v := (B false)) rfl <| dnil ?_
      exact hX _ (.putEq (by rw [hc7]; rfl) (.skp (.skp (.putEq (by rw [hc7]) (.refl _)) rfl) rfl))
    refine un1 rfl ?_
    refine gjoin 4 (d := 74) (v := (B (((r_5 && (decide (r_1.2.1.ID = 0) && (decide (r_1.2.1.Source = 0) && ((r_1.2.1.Small == false) && (decide (r_1.2.1.Call = []) && (decide (r_1.2.1.Arg.Kind = 0) && (decide (r_1.2.1.Arg.N = 0) && (decide (r_1.2.1.Arg.S = []) && true)))))))) && (!r_1.2.2.1)) && (decide (r_1.2.2.2 = r_2))))) (fun X hX => ?_) ?_
    ·refine split2 (fun hc8 => ?_) (fun hc8 => ?_)
     ·refine gt rfl <| a1 rfl <| gt rfl <| a1 rfl <| gt rfl <| a1 (v := (B (decide (r_1.2.2.2 = r_2)))) rfl <| un1 (v := (B (decide (r_1.2.2.2 = r_2)))) rfl <| dnil ?_
      exact hX _ (.putEq (by rw [hc8]; rfl) (.skp (.skp (.skp (.putEq (by rw [hc8]) (.refl _)) rfl) rfl) rfl))
     ·refine gs rfl rfl <| gs rfl rfl <| gs rfl rfl <| un1 (v := (B false)) rfl <| dnil ?_
      exact hX _ (.putEq (by rw [hc8]; rfl) (.skp (.skp (.skp (.putEq (by rw [hc8]) (.refl _)) rfl) rfl) rfl))
    refine un1 rfl <| dnil ?_
    exact Sv.weak (wcn [] rfl (.cf rfl rfl .nil) .nil) (Z4t h)
   ·refine gs rfl rfl <| gs rfl rfl <| gs rfl rfl <| un1 (v := (B false)) rfl <| un1 rfl <| gs rfl rfl <| gs rfl rfl <| gs rfl rfl <| un1 (v := (B false)) rfl <| un1 rfl <| gs rfl rfl <| gs rfl rfl <| un1 (v := (B false)) rfl <| un1 rfl <| gs rfl rfl <| gs rfl rfl <| gs rfl rfl <| un1 (v := (B false)) rfl <| un1 rfl <| dnil ?_
    exact Sv.weak (wcn [] rfl (.cf rfl rfl .nil) .nil) (Z4t h)
  ·refine Sv.skip <| ssr <| un1 (v := (.agg (e_TJLoop q_))) rfl <| un1 (v := (.agg (e_TJAsk a_))) rfl ?_
   obtain ⟨r_6, hr7, h⟩ := bnd h
   refine un <| ac_pure (Z7h hr7) rfl rfl rfl <| un1 rfl <| un1 (v := (.agg (e_TJLoop r_6.1))) rfl <| un1 (v := (I r_6.2.1)) rfl <| un1 (v := (I r_6.2.2)) rfl <| un <| a2v (v := (.c (.ref 11 5 0 0))) (h' := upd _ 11 (some (.cells 5 [[cI 0, cI 0, .ro true 7 [], .ro true 7 [], .ro true 5 []]]))) (n' := 12) rfl rfl hcs <| un <| a2n (h' := upd _ 11 (some (.cells 5 [(e_TJLoop r_6.1)]))) (n' := 12) rfl rfl hcs <| un1 rfl <| un1 rfl <| dnil <| Sv.seq <| ssr <| un1 (v := (.agg [cI r_.1.Now, cI r_.1.Next, lstC z_ 2 7 r_.1.Tasks.length, lstC z_1 3 7 r_.1.Smalls.length, lstC z_2 4 5 r_.1.Timers.length])) rfl <| un1 (v := (.agg (e_TJLoop r_6.1))) rfl ?_
   obtain ⟨r_7, hr8, h⟩ := bnd h
   refine un <| ac_lend (h2 := (upd (upd (upd _ 2 none) 3 none) 4 none)) (Z24 hr8) rfl (.cons (avAs_agg (.sm rfl (.sm rfl (.cons (lstC_ro (es := List.map e_TJJob r_.1.Tasks) rfl (List.length_map e_TJJob).symm (map_nil_of hz_) (gone rfl) (fr_map fun _ => rfl)) (.cons (lstC_ro (es := List.map e_TJJob r_.1.Smalls) rfl (List.length_map e_TJJob).symm (map_nil_of hz_1) (gone rfl) (fr_map fun _ => rfl)) (.cons (lstC_ro (es := List.map e_TJTimer r_.1.Timers) rfl (List.length_map e_TJTimer).symm (map_nil_of hz_2) (gone rfl) (fr_map fun _ => rfl)) .nil)))))) (.cons (avAs_free rfl) .nil)) (hsub_none (hsub_none (hsub_none (hsub_refl _)))) rfl rfl (.inr rfl) <| un1 (v := (B (!r_7))) rfl <| un1 rfl ?_
   refine gjoin 4 (d := 90) (v := (B ((!r_7) || (!decide (r_.2.1 = r_6.2.1))))) (fun X hX => ?_) ?_
   ·refine split2 (fun hc9 => ?_) (fun hc9 => ?_)
    ·refine gs rfl rfl <| gs rfl rfl <| gs rfl rfl <| un1 (v := (B true)) rfl <| dnil ?_
     exact hX _ (.putEq (by rw [hc9]; rfl) (.skp (.skp (.skp (.putEq (by rw [hc9]) (.refl _)) rfl) rfl) rfl))
    ·refine gt rfl <| a1 rfl <| gt rfl <| a1 rfl <| gt rfl <| a1 (v := (B (!decide (r_.2.1 = r_6.2.1)))) rfl <| un1 (v := (B (!decide (r_.2.1 = r_6.2.1)))) rfl <| dnil ?_
     exact hX _ (.putEq (by rw [hc9]; rfl) (.skp (.skp (.skp (.putEq (by rw [hc9]) (.refl _)) rfl) rfl) rfl))
   refine un1 rfl ?_
   refine gjoin 4 (d := 95) (v := (B (((!r_7) || (!decide (r_.2.1 = r_6.2.1))) || (!decide (r_.2.2 = r_6.2.2))))) (fun X hX => ?_) ?_
   ·refine split2 (fun hc10 => ?_) (fun hc10 => ?_)
    ·refine gs rfl rfl <| gs rfl rfl <| gs rfl rfl <| un1 (v := (B true)) rfl <| dnil ?_
     exact hX _ (.putEq (by rw [hc10]; rfl) (.skp (.skp (.skp (.putEq (by rw [hc10]) (.refl _)) rfl) rfl) rfl))
    ·refine gt rfl <| a1 rfl <| gt rfl <| a1 rfl <| gt rfl <| a1 (v := (B (!decide (r_.2.2 = r_6.2.2)))) rfl <| un1 (v := (B (!decide (r_.2.2 = r_6.2.2)))) rfl <| dnil ?_
     exact hX _ (.putEq (by rw [hc10]; rfl) (.skp (.skp (.skp (.putEq (by rw [hc10]) (.refl _)) rfl) rfl) rfl))
   refine dnil ?_
   refine Sv.cnd rfl h (fun h => ?_) fun h => ?_
   ·refine ssr <| un1 rfl <| dnil <| Sv.ret ?_
    exact rt0 h rfl rfl ⟨rfl, rfl, rfl⟩
   ·refine Sv.skip <| Sv.seq <| ssr <| un1 rfl <| un1 (v := (.c (.ref 0 5 0 0))) rfl <| un1 (v := (I q_.Now)) rfl <| un <| ac_pure (Z12 (Γ := Γ) until_ q_.Now 1000000000) rfl rfl rfl <| un1 (v := (B (!(Z2 until_ q_.Now 1000000000)))) rfl <| dnil ?_
    refine Sv.cnd rfl h (fun h => ?_) fun h => ?_
    ·refine ssr <| un1 (v := (.agg [cI r_1.1.Now, cI r_1.1.Next, lstC z_3 6 7 r_1.1.Tasks.length, lstC z_4 7 7 r_1.1.Smalls.length, lstC z_5 8 5 r_1.1.Timers.length])) rfl <| un1 (v := (.agg [cI 0, cI 0, .ro true 7 [], .ro true 7 [], .ro true 5 []])) rfl ?_
     obtain ⟨r_8, hr9, h⟩ := bnd h
     refine un <| ac_lend (h2 := (upd (upd (upd _ 6 none) 7 none) 8 none)) (Z24 hr9) rfl (.cons (avAs_agg (.sm rfl (.sm rfl (.cons (lstC_ro (es := List.map e_TJJob r_1.1.Tasks) rfl (List.length_map e_TJJob).symm (map_nil_of hz_3) (gone rfl) (fr_map fun _ => rfl)) (.cons (lstC_ro (es := List.map e_TJJob r_1.1.Smalls) rfl (List.length_map e_TJJob).symm (map_nil_of hz_4) (gone rfl) (fr_map fun _ => rfl)) (.cons (lstC_ro (es := List.map e_TJTimer r_1.1.Timers) rfl (List.length_map e_TJTimer).symm (map_nil_of hz_5) (gone rfl) (fr_map fun _ => rfl)) .nil)))))) (.cons (avAs_agg (.sm rfl (.sm rfl (.cons .nil (.cons .nil (.cons .nil .nil)))))) .nil)) (hsub_none (hsub_none (hsub_none (hsub_refl _)))) rfl rfl (.inr rfl) <| un1 rfl ?_
     refine gjoin 4 (d := 108) (v := (B (r_8 && (decide (r_1.2.1.ID = 0) && (decide (r_1.2.1.Source = 0) && ((r_1.2.1.Small == false) && (decide (r_1.2.1.Call = []) && (decide (r_1.2.1.Arg.Kind = 0) && (decide (r_1.2.1.Arg.N = 0) && (decide (r_1.2.1.Arg.S = []) && true)))))))))) (fun X hX => ?_) ?_
     ·refine split2 (fun hc13 => ?_) (fun hc13 => ?_)
      ·refine gt rfl <| a1 (v := (.agg (e_TJJob r_1.2.1))) rfl <| gt rfl <| a1 (v := (.agg [cI 0, cI 0, cB false, .str [], cI 0, cI 0, .str []])) rfl <| gt rfl <| a1 (v := (B (decide (r_1.2.1.ID = 0) && (decide (r_1.2.1.Source = 0) && ((r_1.2.1.Small == false) && (decide (r_1.2.1.Call = []) && (decide (r_1.2.1.Arg.Kind = 0) && (decide (r_1.2.1.Arg.N = 0) && (decide (r_1.2.1.Arg.S = []) && true))))))))) rfl <| un1 (v := (B (decide (r_1.2.1.ID = 0) && (decide (r_1.2.1.Source = 0) && ((r_1.2.1.Small == false) && (decide (r_1.2.1.Call = []) && (decide (r_1.2.1.Arg.Kind = 0) && (decide (r_1.2.1.Arg.N = 0) && (decide (r_1.2.1.Arg.S = []) && true))))))))) rfl <| dnil ?_
       exact hX _ (.putEq (by rw [hc13]; rfl) (.skp (.skp (.skp (.putEq (by rw [hc13]) (.refl _)) rfl) rfl) rfl))
      ·refine gs rfl rfl <| gs rfl rfl <| gs rfl rfl <| un1 (v := (B false)) rfl <| dnil ?_
       exact hX _ (.putEq (by rw [hc13]; rfl) (.skp (.skp (.skp (.putEq (by rw [hc13]) (.refl _)) rfl) rfl) rfl))
     refine un1 rfl ?_
     refine gjoin 3 (d := 112) (v := (B ((r_8 && (decide (r_1.2.1.ID = 0) && (decide (r_1.2.1.Source = 0) && ((r_1.2.1.Small == false) && (decide (r_1.2.1.Call = []) && (decide (r_1.2.1.Arg.Kind = 0) && (decide (r_1.2.1.Arg.N = 0) && (decide (r_1.2.1.Arg.S = []) && true)))))))) && (!r_1.2.2.1)))) (fun X hX => ?_) ?_
     ·refine split2 (fun hc14 => ?_) (fun hc14 => ?_)
      ·refine gt rfl <| a1 rfl <| gt rfl <| a1 (v := (B (!r_1.2.2.1))) rfl <| un1 (v := (B (!r_1.2.2.1))) rfl <| dnil ?_
       exact hX _ (.putEq (by rw [hc14]; rfl) (.skp (.skp (.putEq (by rw [hc14]) (.refl _)) rfl) rfl))
      ·refine gs rfl rfl <| gs rfl rfl <| un1 (v := (B false)) rfl <| dnil ?_
       exact hX _ (.putEq (by rw [hc14]; rfl) (.skp (.skp (.putEq (by rw [hc14]) (.refl _)) rfl) rfl))
     refine un1 rfl ?_
     refine gjoin 3 (d := 116) (v := (B (((r_8 && (decide (r_1.2.1.ID = 0) && (decide (r_1.2.1.Source = 0) && ((r_1.2.1.Small == false) && (decide (r_1.2.1.Call = []) && (decide (r_1.2.1.Arg.Kind = 0) && (decide (r_1.2.1.Arg.N = 0) && (decide (r_1.2.1.Arg.S = []) && true)))))))) && (!r_1.2.2.1)) && (decide (r_1.2.2.2 = 1))))) (fun X hX => ?_) ?_
     ·refine split2 (fun hc15 => ?_) (fun hc15 => ?_)
      ·refine gt rfl <| a1 rfl <| gt rfl <| a1 (v := (B (decide (r_1.2.2.2 = 1)))) rfl <| un1 (v := (B (decide (r_1.2.2.2 = 1)))) rfl <| dnil ?_
       exact hX _ (.putEq (by rw [hc15]; rfl) (.skp (.skp (.putEq (by rw [hc15]) (.refl _)) rfl) rfl))
      ·refine gs rfl rfl <| gs rfl rfl <| un1 (v := (B false)) rfl <| dnil ?_
       exact hX _ (.putEq (by rw [hc15]; rfl) (.skp (.skp (.putEq (by rw [hc15]) (.refl _)) rfl) rfl))
     refine un1 rfl <| dnil <| Sv.ret ?_
     exact rt0 h rfl rfl ⟨rfl, rfl, rfl⟩
    ·refine Sv.skip <| ssr <| un1 (v := (.agg (e_TJLoop q_))) rfl <| un1 rfl ?_
     obtain ⟨r_9, hr10, h⟩ := bnd h
     refine un <| ac_pure (Z7k hr10) rfl rfl rfl <| un1 rfl <| un1 (v := (.agg (e_TJLoop r_9.1))) rfl <| un1 (v := (.agg (e_TJJob r_9.2.1))) rfl <| un1 (v := (B r_9.2.2)) rfl <| un <| a2v (v := (.c (.ref 12 5 0 0))) (h' := upd _ 12 (some (.cells 5 [[cI 0, cI 0, .ro true 7 [], .ro true 7 [], .ro true 5 []]]))) (n' := 13) rfl rfl hcs <| un <| a2v (v := (.c (.ref 13 7 0 0))) (h' := upd _ 13 (some (.cells 7 [[cI 0, cI 0, cB false, .str [], cI 0, cI 0, .str []]]))) (n' := 14) rfl rfl hcs <| un <| a2n (h' := upd _ 12 (some (.cells 5 [(e_TJLoop r_9.1)]))) (n' := 14) rfl rfl hcs <| un <| a2n (h' := upd _ 13 (some (.cells 7 [(e_TJJob r_9.2.1)]))) (n' := 14) rfl rfl hcs <| un1 rfl <| dnil <| ssr <| un1 (v := (.agg [cI r_1.1.Now, cI r_1.1.Next, lstC z_3 6 7 r_1.1.Tasks.length, lstC z_4 7 7 r_1.1.Smalls.length, lstC z_5 8 5 r_1.1.Timers.length])) rfl <| un1 (v := (.agg (e_TJLoop r_9.1))) rfl ?_
     obtain ⟨r_10, hr11, h⟩ := bnd h
     refine un <| ac_lend (h2 := (upd (upd (upd _ 6 none) 7 none) 8 none)) (Z24 hr11) rfl (.cons (avAs_agg (.sm rfl (.sm rfl (.cons (lstC_ro (es := List.map e_TJJob r_1.1.Tasks) rfl (List.length_map e_TJJob).symm (map_nil_of hz_3) (gone rfl) (fr_map fun _ => rfl)) (.cons (lstC_ro (es := List.map e_TJJob r_1.1.Smalls) rfl (List.length_map e_TJJob).symm (map_nil_of hz_4) (gone rfl) (fr_map fun _ => rfl)) (.cons (lstC_ro (es := List.map e_TJTimer r_1.1.Timers) rfl (List.length_map e_TJTimer).symm (map_nil_of hz_5) (gone rfl) (fr_map fun _ => rfl)) .nil)))))) (.cons (avAs_free rfl) .nil)) (hsub_none (hsub_none (hsub_none (hsub_refl _)))) rfl rfl (.inr rfl) <| un1 rfl ?_
     refine gjoin 4 (d := 131) (v := (B (r_10 && (decide (r_1.2.1.ID = r_9.2.1.ID) && (decide (r_1.2.1.Source = r_9.2.1.Source) && ((r_1.2.1.Small == r_9.2.1.Small) && (decide (r_1.2.1.Call = r_9.2.1.Call) && (decide (r_1.2.1.Arg.Kind = r_9.2.1.Arg.Kind) && (decide (r_1.2.1.Arg.N = r_9.2.1.Arg.N) && (decide (r_1.2.1.Arg.S = r_9.2.1.Arg.S) && true)))))))))) (fun X hX => ?_) ?_
     ·refine split2 (fun hc16 => ?_) (fun hc16 => ?_)
      ·refine gt rfl <| a1 (v := (.agg (e_TJJob r_1.2.1))) rfl <| gt rfl <| a1 (v := (.agg (e_TJJob r_9.2.1))) rfl <| gt rfl <| a1 (v := (B (decide (r_1.2.1.ID = r_9.2.1.ID) && (decide (r_1.2.1.Source = r_9.2.1.Source) && ((r_1.2.1.Small == r_9.2.1.Small) && (decide (r_1.2.1.Call = r_9.2.1.Call) && (decide (r_1.2.1.Arg.Kind = r_9.2.1.Arg.Kind) && (decide (r_1.2.1.Arg.N = r_9.2.1.Arg.N) && (decide (r_1.2.1.Arg.S = r_9.2.1.Arg.S) && true))))))))) rfl <| un1 (v := (B (decide (r_1.2.1.ID = r_9.2.1.ID) && (decide (r_1.2.1.Source = r_9.2.1.Source) && ((r_1.2.1.Small == r_9.2.1.Small) && (decide (r_1.2.1.Call = r_9.2.1.Call) && (decide (r_1.2.1.Arg.Kind = r_9.2.1.Arg.Kind) && (decide (r_1.2.1.Arg.N = r_9.2.1.Arg.N) && (decide (r_1.2.1.Arg.S = r_9.2.1.Arg.S) && true))))))))) rfl <| dnil ?_
       exact hX _ (.putEq (by rw [hc16]; rfl) (.skp (.skp (.skp (.putEq (by rw [hc16]) (.refl _)) rfl) rfl) rfl))
      ·refine gs rfl rfl <| gs rfl rfl <| gs rfl rfl <| un1 (v := (B false)) rfl <| dnil ?_
       exact hX _ (.putEq (by rw [hc16]; rfl) (.skp (.skp (.skp (.putEq (by rw [hc16]) (.refl _)) rfl) rfl) rfl))
     refine un1 rfl ?_
     refine gjoin 4 (d := 136) (v := (B ((r_10 && (decide (r_1.2.1.ID = r_9.2.1.ID) && (decide (r_1.2.1.Source = r_9.2.1.Source) && ((r_1.2.1.Small == r_9.2.1.Small) && (decide (r_1.2.1.Call = r_9.2.1.Call) && (decide (r_1.2.1.Arg.Kind = r_9.2.1.Arg.Kind) && (decide (r_1.2.1.Arg.N = r_9.2.1.Arg.N) && (decide (r_1.2.1.Arg.S = r_9.2.1.Arg.S) && true)))))))) && ((r_1.2.2.1 == r_9.2.2) && true)))) (fun X hX => ?_) ?_
     ·refine split2 (fun hc17 => ?_) (fun hc17 => ?_)
      ·refine gt rfl <| a1 rfl <| gt rfl <| a1 rfl <| gt rfl <| a1 (v := (B ((r_1.2.2.1 == r_9.2.2) && true))) rfl <| un1 (v := (B ((r_1.2.2.1 == r_9.2.2) && true))) rfl <| dnil ?_
       exact hX _ (.putEq (by rw [hc17]; rfl) (.skp (.skp (.skp (.putEq (by rw [hc17]) (.refl _)) rfl) rfl) rfl))
      ·refine gs rfl rfl <| gs rfl rfl <| gs rfl rfl <| un1 (v := (B false)) rfl <| dnil ?_
       exact hX _ (.putEq (by rw [hc17]; rfl) (.skp (.skp (.skp (.putEq (by rw [hc17]) (.refl _)) rfl) rfl) rfl))
     refine un1 rfl ?_
     refine gjoin 3 (d := 140) (v := (B (((r_10 && (decide (r_1.2.1.ID = r_9.2.1.ID) && (decide (r_1.2.1.Source = r_9.2.1.Source) && ((r_1.2.1.Small == r_9.2.1.Small) && (decide (r_1.2.1.Call = r_9.2.1.Call) && (decide (r_1.2.1.Arg.Kind = r_9.2.1.Arg.Kind) && (decide (r_1.2.1.Arg.N = r_9.2.1.Arg.N) && (decide (r_1.2.1.Arg.S = r_9.2.1.Arg.S) && true)))))))) && ((r_1.2.2.1 == r_9.2.2) && true)) && (decide (r_1.2.2.2 = 0))))) (fun X hX => ?_) ?_
     ·refine split2 (fun hc18 => ?_) (fun hc18 => ?_)
      ·refine gt rfl <| a1 rfl <| gt rfl <| a1 (v := (B (decide (r_1.2.2.2 = 0)))) rfl <| un1 (v := (B (decide (r_1.2.2.2 = 0)))) rfl <| dnil ?_
       exact hX _ (.putEq (by rw [hc18]; rfl) (.skp (.skp (.putEq (by rw [hc18]) (.refl _)) rfl) rfl))
      ·refine gs rfl rfl <| gs rfl rfl <| un1 (v := (B false)) rfl <| dnil ?_
       exact hX _ (.putEq (by rw [hc18]; rfl) (.skp (.skp (.putEq (by rw [hc18]) (.refl _)) rfl) rfl))
     refine un1 rfl <| dnil <| Sv.ret ?_
     exact rt0 h rfl rfl ⟨rfl, rfl, rfl⟩
end Go.Proofs.YtoomjemboekooaaBv
