/- Printed by a program of mine (bgen.py): plain functions, and the walks that show that the code comes to what they answer. -/
import Derived.Test.YtjicgjhhiallkaaGreatDoorGUrlResolves2
namespace Go.Proofs.YtjicgjhhiallkaaGreatDoorBv
open Go
set_option linter.unusedVariables false
set_option linter.unusedSimpArgs false
set_option maxRecDepth 100000
def a8_c0 : ACode := (.cond (.tmp 37) (.seq (.region [(mV 38 4), (oP 39 (.callv (.tmp 38) [])), (oP 40 (.ext (.tmp 39) 0)), (oP 41 (.ext (.tmp 39) 1)), ⟨none, (.store 8 (.tmp 2) (.tmp 40)), none⟩, (mV 3 41)])
 .ret) .skip)
def a8_c1 : ACode := (.seq (.region [(oP 76 (.bin .lss (.tmp 75) (.tmp 74)))])
 (.seq (.cond (.tmp 76) .skip (.exit 0))
 (.seq (.block 1 (.seq (.region [(oP 77 (.iaddr 1 (.tmp 73) (.tmp 75))), (oP 78 (.load false 1 (.tmp 77))), (mV 14 78)])
 (.seq (.seq (.region [(mV 79 14), (oP 80 (.conv .i64 (.tmp 79))), ⟨(some 81), (.call 32 [(.tmp 80), (kI 48), (kI 57)]), none⟩, (oP 82 (.un .not (.tmp 81))), (mV 83 82), ⟨(some 84), (.mov (.tmp 11)), (some (83, false))⟩, ⟨(some 85), (.lenS (.tmp 84)), (some (83, false))⟩, ⟨(some 86), (.bin .gtr (.tmp 85) (kI 6)), (some (83, false))⟩, ⟨(some 87), (.pick (.tmp 83) (.const (.c (.val (.bool true)))) (.tmp 86)), none⟩])
 (.cond (.tmp 87) (.seq (.region [(mV 88 4), (oP 89 (.callv (.tmp 88) [])), (oP 90 (.ext (.tmp 89) 0)), (oP 91 (.ext (.tmp 89) 1)), ⟨none, (.store 8 (.tmp 2) (.tmp 90)), none⟩, (mV 3 91)])
 .ret) .skip))
 (.region [(mV 92 12), ⟨(some 93), (.bin .mul (kI 10) (.tmp 92)), none⟩, (mV 94 14), ⟨(some 95), (.bin .sub (.tmp 94) (.const (.c (.val (.int .u8 48))))), none⟩, (oP 96 (.conv .i64 (.tmp 95))), (oP 97 (.bin .add (.tmp 93) (.tmp 96))), (mV 12 97)]))))
 (.region [⟨(some 98), (.bin .add (.tmp 75) (kI 1)), none⟩, (mV 75 98)]))))
def a8_c2 : ACode := (.seq (.region [(mV 125 9), (oP 126 (.call 33 [(.tmp 7), (.tmp 125)])), (mV 124 126), (oP 127 (.ext (.tmp 124) 0)), (oP 128 (.ext (.tmp 124) 1)), (mV 15 127), (mV 16 128)])
 (.seq (.region [(mV 130 15), ⟨(some 131), (.call 23 [(.tmp 130), (.const (.c (.str [47])))]), none⟩, (oP 132 (.call 34 [(.tmp 131)])), (mV 129 132), (oP 133 (.ext (.tmp 129) 0)), (oP 134 (.ext (.tmp 129) 1)), (mV 17 133), (mV 18 134)])
 (.seq (.seq (.region [(mV 135 16), (oP 136 (.un .not (.tmp 135))), (mV 137 136), ⟨(some 138), (.mov (.tmp 18)), (some (137, false))⟩, ⟨(some 139), (.un .not (.tmp 138)), (some (137, false))⟩, ⟨(some 140), (.pick (.tmp 137) (.const (.c (.val (.bool true)))) (.tmp 139)), none⟩])
 (.cond (.tmp 140) (.seq (.region [(mV 141 4), (oP 142 (.callv (.tmp 141) [])), (oP 143 (.ext (.tmp 142) 0)), (oP 144 (.ext (.tmp 142) 1)), ⟨none, (.store 8 (.tmp 2) (.tmp 143)), none⟩, (mV 3 144)])
 .ret) .skip))
 (.seq (.region [(mV 145 17), (oP 146 (.call 35 [(.tmp 145)])), (oP 147 (.faddr 3 (.tmp 7))), ⟨none, (.store 1 (.tmp 147) (.tmp 146)), none⟩])
 (.seq (.region [(oP 148 (.load true 8 (.tmp 7))), ⟨none, (.store 8 (.tmp 2) (.tmp 148)), none⟩, ⟨(some 3), (.mov (kI 0)), none⟩])
 .ret)))))
def a8_c3 : ACode := (.seq (.region [(mV 42 5), ⟨(some 43), (.build [(.str []), (.str []), (.val (.int .i64 0)), (.ro true 1 []), (.str []), (.val (.bool false)), (.str []), (.val (.bool false))] [(0, (1, (.tmp 42)))]), none⟩, ⟨(some 7), (.box (.const (.agg [(.str []), (.str []), (.val (.int .i64 0)), (.ro true 1 []), (.str []), (.val (.bool false)), (.str []), (.val (.bool false))]))), none⟩, ⟨none, (.store 8 (.tmp 7) (.tmp 43)), none⟩])
 (.seq (.region [(mV 45 0), (mV 46 5), (oP 47 (.lenS (.tmp 46))), ⟨(some 48), (.bin .add (.tmp 47) (kI 3)), none⟩, (oP 49 (.slStr (.tmp 45) (some (.tmp 48)) none)), ⟨(some 50), (.call 29 [(.tmp 49), (.const (.c (.str [47, 63, 35])))]), none⟩, (mV 44 50), (oP 51 (.ext (.tmp 44) 0)), (oP 52 (.ext (.tmp 44) 1)), (mV 8 51), (mV 9 52)])
 (.seq (.region [(mV 54 8), ⟨(some 55), (.call 29 [(.tmp 54), (.const (.c (.str [58])))]), none⟩, (mV 53 55), (oP 56 (.ext (.tmp 53) 0)), (oP 57 (.ext (.tmp 53) 1)), (mV 10 56), (mV 11 57)])
 (.seq (.region [(mV 58 10), (oP 59 (.call 30 [(.tmp 58)])), (oP 60 (.faddr 1 (.tmp 7))), ⟨none, (.store 1 (.tmp 60) (.tmp 59)), none⟩])
 (.seq (.seq (.region [(oP 61 (.faddr 1 (.tmp 7))), (oP 62 (.load false 1 (.tmp 61))), (oP 63 (.call 31 [(.tmp 62)])), (oP 64 (.un .not (.tmp 63)))])
 (.cond (.tmp 64) (.seq (.region [(mV 65 4), (oP 66 (.callv (.tmp 65) [])), (oP 67 (.ext (.tmp 66) 0)), (oP 68 (.ext (.tmp 66) 1)), ⟨none, (.store 8 (.tmp 2) (.tmp 67)), none⟩, (mV 3 68)])
 .ret) .skip))
 (.seq (.seq (.region [(mV 69 11), ⟨(some 70), (.bin .neq (.tmp 69) (.const (.c (.str [])))), none⟩])
 (.cond (.tmp 70) (.seq (.region [⟨(some 12), (.mov (kI 0)), none⟩])
 (.seq (.seq (.region [(mV 71 11), ⟨(some 72), (.slStr (.tmp 71) (some (kI 1)) none), none⟩, (oP 73 (.toBytes (.tmp 72))), (oP 74 (.len (.tmp 73))), ⟨(some 75), (.mov (kI 0)), none⟩])
 (.block 0 (.loop a8_c1)))
 (.seq (.seq (.region [(mV 99 12), ⟨(some 100), (.call 32 [(.tmp 99), (kI 1), (kI 65535)]), none⟩, (oP 101 (.un .not (.tmp 100)))])
 (.cond (.tmp 101) (.seq (.region [(mV 102 4), (oP 103 (.callv (.tmp 102) [])), (oP 104 (.ext (.tmp 103) 0)), (oP 105 (.ext (.tmp 103) 1)), ⟨none, (.store 8 (.tmp 2) (.tmp 104)), none⟩, (mV 3 105)])
 .ret) .skip))
 (.seq (.region [(mV 106 5), ⟨(some 107), (.bin .eql (.tmp 106) (.const (.c (.str [104, 116, 116, 112])))), none⟩, (mV 108 107), ⟨(some 109), (.mov (.tmp 12)), (some (108, true))⟩, ⟨(some 110), (.bin .eql (.tmp 109) (kI 80)), (some (108, true))⟩, ⟨(some 111), (.pick (.tmp 108) (.tmp 110) (.const (.c (.val (.bool false))))), none⟩, (oP 112 (.un .not (.tmp 111))), (mV 113 112), ⟨(some 114), (.mov (.tmp 5)), (some (113, true))⟩, ⟨(some 115), (.bin .eql (.tmp 114) (.const (.c (.str [104, 116, 116, 112, 115])))), (some (113, true))⟩, ⟨(some 116), (.mov (.tmp 115)), (some (113, true))⟩, ⟨(some 117), (.mov (.tmp 12)), (some (116, true))⟩, ⟨(some 118), (.bin .eql (.tmp 117) (kI 443)), (some (116, true))⟩, ⟨(some 119), (.pick (.tmp 116) (.tmp 118) (.const (.c (.val (.bool false))))), (some (113, true))⟩, ⟨(some 120), (.un .not (.tmp 119)), (some (113, true))⟩, ⟨(some 121), (.pick (.tmp 113) (.tmp 120) (.const (.c (.val (.bool false))))), none⟩])
 (.cond (.tmp 121) (.region [(mV 122 12), (oP 123 (.faddr 2 (.tmp 7))), ⟨none, (.store 1 (.tmp 123) (.tmp 122)), none⟩]) .skip))))) .skip))
 a8_c2))))))
def a8 : AFunc := ⟨1, [(.cell true 8 2), (.tmp 3)], (.seq (.region [⟨(some 2), (.box (.const (.agg [(.str []), (.str []), (.val (.int .i64 0)), (.ro true 1 []), (.str []), (.val (.bool false)), (.str []), (.val (.bool false))]))), none⟩, ⟨(some 3), (.mov (kI 0)), none⟩])
 (.seq (.region [⟨(some 4), (.mov (.const (.c (.fn (.func 26) [] [])))), none⟩])
 (.seq (.seq (.region [(mV 19 0), (oP 20 (.lenS (.tmp 19))), ⟨(some 21), (.bin .gtr (.tmp 20) (kI 500)), none⟩])
 (.cond (.tmp 21) (.seq (.region [(oP 22 (.build [(.str []), (.str []), (.val (.int .i64 0)), (.ro true 1 []), (.str []), (.val (.bool false)), (.str []), (.val (.bool false))] [])), ⟨none, (.store 8 (.tmp 2) (.tmp 22)), none⟩, ⟨(some 3), (.mov (kI 2)), none⟩])
 .ret) .skip))
 (.seq (.region [(mV 24 0), (oP 25 (.call 27 [(.tmp 24)])), (mV 23 25), (oP 26 (.ext (.tmp 23) 0)), (oP 27 (.ext (.tmp 23) 1)), (mV 5 26), (mV 6 27)])
 (.seq (.seq (.region [(mV 28 6), (oP 29 (.un .not (.tmp 28))), (mV 30 29), ⟨(some 31), (.mov (.tmp 0)), (some (30, false))⟩, ⟨(some 32), (.mov (.tmp 5)), (some (30, false))⟩, ⟨(some 33), (.lenS (.tmp 32)), (some (30, false))⟩, ⟨(some 34), (.slStr (.tmp 31) (some (.tmp 33)) none), (some (30, false))⟩, ⟨(some 35), (.call 28 [(.tmp 34), (.const (.c (.str [58, 47, 47])))]), (some (30, false))⟩, ⟨(some 36), (.un .not (.tmp 35)), (some (30, false))⟩, ⟨(some 37), (.pick (.tmp 30) (.const (.c (.val (.bool true)))) (.tmp 36)), none⟩])
 a8_c0)
 a8_c3)))))⟩
set_option maxRecDepth 100000 in
theorem c8 : compFunc Tryz.prog 8 = some a8 := by kernel_rfl
def r4_Addressed_post (r : (TJUrl × Int)) : AV → Heap → Nat → Prop := fun v h' n' => v = (.tup [(.agg [.str r.1.Scheme, .str r.1.Host, cI r.1.Port, .ro false 1 (r.1.Path.map eStr), .str r.1.Query, cB r.1.Asks, .str r.1.Fragment, cB r.1.Points]), (I r.2)]) ∧ (h' = e0) ∧ n' = 0
noncomputable def r4_Addressed_j2 (r_ : (Tx × Bool)) (r_4 : Tx) (r_2 : (Tx × Tx)) (u2 : Int) : Option (TJUrl × Int) :=
 (r4_TailOf1 (⟨r_.1, r_4, u2, [], [], false, [], false⟩ : TJUrl) r_2.2).bind fun r_6 =>
 (strings_TrimPrefix r_6.1 [47]).bind fun r_7 =>
 (r4_segmentsOf r_7).bind fun r_8 =>
 if ((!r_6.2.1) || (!r_8.2)) then
  some (r4_Addressed_fn1.1, r4_Addressed_fn1.2)
 else
  (r4_Tidied r_8.1).bind fun r_9 =>
  some ((⟨r_6.2.2.Scheme, r_6.2.2.Host, r_6.2.2.Port, r_9, r_6.2.2.Query, r_6.2.2.Asks, r_6.2.2.Fragment, r_6.2.2.Points⟩ : TJUrl), 0)
theorem r4_Addressed_j2_ok {mL : Int} {r_ : (Tx × Bool)} {r_4 : Tx} {r_2 : (Tx × Tx)} {u2 : Int} {o : (TJUrl × Int)} (h : r4_Addressed_j2 r_ r_4 r_2 u2 = some o) :
  Sv Tryz.prog (GG mL) 0 a8_c2 (Ends a8.results 0 (r4_Addressed_post o)) ⟨(upd (upd (upd (upd e0 2 (some (.c (.ref 0 8 0 0)))) 4 (some (.c (.fn (.func 26) [] [])))) 7 (some (.c (.ref 1 8 0 0)))) 9 (some (S r_2.2))), (upd (upd e0 0 (some (.cells 8 [[.str [], .str [], cI 0, .ro true 1 [], .str [], cB false, .str [], cB false]]))) 1 (some (.cells 8 [[.str r_.1, .str r_4, cI u2, .ro true 1 [], .str [], cB false, .str [], cB false]]))), 2⟩ := by
 unfold r4_Addressed_j2 at h
 refine ssr <| un1 rfl <| dweak (show Weak 0 _ ⟨(upd (upd (upd (upd (upd e0 2 (some (.c (.ref 0 8 0 0)))) 4 (some (.c (.fn (.func 26) [] [])))) 7 (some (.c (.ref 1 8 0 0)))) 9 (some (S r_2.2))) 125 (some (S r_2.2))), (upd (upd (upd e0 0 (some (.cells 8 [[.str [], .str [], cI 0, .ro true 1 [], .str [], cB false, .str [], cB false]]))) 1 (some (.cells 8 [[.str r_.1, .str r_4, cI u2, lstC true 2 1 ([] : TT).length, .str [], cB false, .str [], cB false]]))) 2 (lstB true 1 (([] : TT).map eStr))), 3⟩ from (wcn [0, 1, 1002] rfl (.cf rfl rfl (.cf rfl rfl (.cons rfl (.c (.ref rfl (by decide))) (.cf rfl rfl (.cons rfl (.c (.ref rfl (by decide))) .nil))))) (.non (by decide) (.box (by decide) rfl (blkAs_cells (.sm rfl (.sm rfl (.sm rfl (.sm rfl (.sm rfl (.sm rfl (.sm rfl (.sm rfl .nil))))))))) (.box (by decide) rfl (blkAs_cells (.sm rfl (.sm rfl (.sm rfl (.sm rfl (.sm rfl (.sm rfl (.sm rfl (.sm rfl .nil))))))))) .nil))))) ?_
 obtain ⟨r_6, hr6, h⟩ := bnd h
 refine un <| ac_gen (bs := [1, 2]) («as» := [(.c (.ref 1 8 0 0)), (S r_2.2)]) (h2 := _) (h1 := (upd (upd e0 1 (some (.cells 8 [[.str r_.1, .str r_4, cI u2, lstC true 2 1 ([] : TT).length, .str [], cB false, .str [], cB false]]))) 2 (lstB true 1 (([] : TT).map eStr)))) (r4_TailOf1_ok (fun _ => rfl) hr6) rfl (.cons (.c (.ref rfl (by decide))) (.cons (avAs_free rfl) .nil)) (hsub_refl _) (.cons rfl (.cons rfl (.nil _))) (fun h => by cases h) (by decide) (by decide) (.cons (.c (.ref rfl (by decide))) (.cons (avAs_free rfl) .nil)) (.row (by decide) rfl (fr_map fun _ => rfl) (.box (by decide) rfl (blkAs_cells (.sm rfl (.sm rfl (.sm rfl (.cons (lstC_ren rfl (by decide)) (.sm rfl (.sm rfl (.sm rfl (.sm rfl .nil))))))))) .nil)) ?_
 rintro _ _ _ hn ⟨z_, hz_, rfl, rfl, rfl⟩
 refine ⟨.inl rfl, (upd (upd (rem [1, 2] _) 1 (some (.cells 8 [[.str r_6.2.2.Scheme, .str r_6.2.2.Host, cI r_6.2.2.Port, lstC z_ 3 1 r_6.2.2.Path.length, .str r_6.2.2.Query, cB r_6.2.2.Asks, .str r_6.2.2.Fragment, cB r_6.2.2.Points]]))) 3 (lstB z_ 1 (r_6.2.2.Path.map eStr))), fun hbd => (m3_cons (m3_row rfl (fr_map fun _ => rfl)) (m3_cons (m3_box rfl (by cases z_ <;> rfl)) (m3_rem (in_cons (by decide) (in_cons (by decide) (in_nil _))) (.cons (by decide) (.cons (by decide) .nil)) hbd))), (.tup [(S r_6.1), (B r_6.2.1)]), 4, (by cases z_ <;> rfl), rfl, ?_⟩
 refine un1 rfl <| un1 (v := (S r_6.1)) rfl <| un1 (v := (B r_6.2.1)) rfl <| un1 rfl <| un1 rfl <| dnil <| ssr <| un1 rfl ?_
 obtain ⟨r_7, hr7, h⟩ := bnd h
 refine un <| ac_pure (strings_TrimPrefix_ok hr7) rfl rfl rfl ?_
 obtain ⟨r_8, hr8, h⟩ := bnd h
 refine un <| ac_gen (bs := []) («as» := [(S r_7)]) (h2 := _) (h1 := e0) (r4_segmentsOf_ok hr8) rfl (.cons (avAs_free rfl) .nil) (hsub_refl _) (.nil _) (fun _ => rfl) (by decide) (by decide) (.cons (avAs_free rfl) .nil) .nil ?_
 rintro _ _ _ hn ⟨z_1, hz_1, rfl, rfl, rfl⟩
 refine ⟨.inl rfl, (upd (rem [] _) 4 (lstB z_1 1 (r_8.1.map eStr))), fun hbd => (m3_cons (m3_row rfl (fr_map fun _ => rfl)) (m3_rem (in_nil _) (.cons (by decide) .nil) hbd)), (.tup [(lstV z_1 4 1 r_8.1.length), (B r_8.2)]), 5, (by cases z_1 <;> rfl), rfl, ?_⟩
 refine un1 rfl <| un1 (v := (lstV z_1 4 1 r_8.1.length)) rfl <| un1 (v := (B r_8.2)) rfl <| un1 rfl <| un1 rfl <| dnil <| Sv.seq <| ssr <| un1 rfl <| un1 (v := (B (!r_6.2.1))) rfl <| un1 rfl ?_
 refine gjoin 3 (d := 140) (v := (B ((!r_6.2.1) || (!r_8.2)))) (fun X hX => ?_) ?_
 ·refine split2 (fun hc4 => ?_) (fun hc4 => ?_)
  ·refine gs rfl rfl <| gs rfl rfl <| un1 (v := (B true)) rfl <| dnil ?_
   exact hX _ (.putEq (by rw [hc4]; rfl) (.skip _ _ (.skip _ _ (.putEq (by rw [hc4]) (.refl _)) rfl) rfl))
  ·refine gt rfl <| a1 rfl <| gt rfl <| a1 (v := (B (!r_8.2))) rfl <| un1 (v := (B (!r_8.2))) rfl <| dnil ?_
   exact hX _ (.putEq (by rw [hc4]; rfl) (.skip _ _ (.skip _ _ (.putEq (by rw [hc4]) (.refl _)) rfl) rfl))
 refine dnil ?_
 refine Sv.cond (b := ((!r_6.2.1) || (!r_8.2))) rfl (fun hc5 => ?_) (fun hc5 => ?_)
 ·replace h := ifT hc5 h
  refine ssr <| un1 rfl <| un <| acv_gen (bs := []) («as» := []) (h2 := _) (h1 := e0) rfl (by kernel_rfl) (r4_Addressed_fn1_ok (mL := mL)) rfl .nil (hsub_refl _) (.nil _) (fun _ => rfl) (by decide) (by decide) .nil .nil ?_
  rintro _ _ _ hn ⟨rfl, rfl, rfl⟩
  refine ⟨.inl rfl, (rem [] _), fun hbd => (m3_rem (in_nil _) (.nil) hbd), (.tup [(.agg [.str r4_Addressed_fn1.1.Scheme, .str r4_Addressed_fn1.1.Host, cI r4_Addressed_fn1.1.Port, .ro false 1 (r4_Addressed_fn1.1.Path.map eStr), .str r4_Addressed_fn1.1.Query, cB r4_Addressed_fn1.1.Asks, .str r4_Addressed_fn1.1.Fragment, cB r4_Addressed_fn1.1.Points]), (I r4_Addressed_fn1.2)]), 5, rfl, rfl, ?_⟩
  refine un1 (v := (.agg [.str r4_Addressed_fn1.1.Scheme, .str r4_Addressed_fn1.1.Host, cI r4_Addressed_fn1.1.Port, .ro false 1 (r4_Addressed_fn1.1.Path.map eStr), .str r4_Addressed_fn1.1.Query, cB r4_Addressed_fn1.1.Asks, .str r4_Addressed_fn1.1.Fragment, cB r4_Addressed_fn1.1.Points])) rfl <| un1 (v := (I r4_Addressed_fn1.2)) rfl <| un <| a2n (h' := upd _ 0 (some (.cells 8 [[.str r4_Addressed_fn1.1.Scheme, .str r4_Addressed_fn1.1.Host, cI r4_Addressed_fn1.1.Port, .ro false 1 (r4_Addressed_fn1.1.Path.map eStr), .str r4_Addressed_fn1.1.Query, cB r4_Addressed_fn1.1.Asks, .str r4_Addressed_fn1.1.Fragment, cB r4_Addressed_fn1.1.Points]]))) (n' := 5) rfl rfl (fun h => by cases h) <| un1 rfl <| dnil <| Sv.ret ?_
  replace h := Option.some.inj h
  subst h
  exact ⟨_, .refl _, _, rfl, ⟨upd e0 0 (some (.tup [(.agg [.str r4_Addressed_fn1.1.Scheme, .str r4_Addressed_fn1.1.Host, cI r4_Addressed_fn1.1.Port, .ro false 1 (r4_Addressed_fn1.1.Path.map eStr), .str r4_Addressed_fn1.1.Query, cB r4_Addressed_fn1.1.Asks, .str r4_Addressed_fn1.1.Fragment, cB r4_Addressed_fn1.1.Points]), (I r4_Addressed_fn1.2)])), e0, 0⟩, (.tup [(.agg [.str r4_Addressed_fn1.1.Scheme, .str r4_Addressed_fn1.1.Host, cI r4_Addressed_fn1.1.Port, .ro false 1 (r4_Addressed_fn1.1.Path.map eStr), .str r4_Addressed_fn1.1.Query, cB r4_Addressed_fn1.1.Asks, .str r4_Addressed_fn1.1.Fragment, cB r4_Addressed_fn1.1.Points]), (I r4_Addressed_fn1.2)]), weak_canon [] rfl List.nodup_nil (Nat.le_refl _) nlz (.cons rfl (avAs_tup (.cons (avAs_free rfl) (.cons (avAs_free rfl) .nil))) .nil) .nil, rfl, rfl, rfl, rfl⟩
 ·replace h := ifF hc5 h
  refine Sv.skip <| ssr <| un1 rfl ?_
  obtain ⟨r_9, hr9, h⟩ := bnd h
  refine un <| ac_gen (bs := []) («as» := [(.c (.ro false 1 (r_8.1.map eStr)))]) (h2 := (upd _ 4 none)) (h1 := e0) (r4_Tidied_ok hr9) rfl (.cons (.c (lstC_ro (es := List.map eStr r_8.1) rfl (List.length_map eStr).symm (map_nil_of hz_1) (gone rfl) (fr_map fun _ => rfl))) .nil) (hsub_none (hsub_refl _)) (.nil _) (fun _ => rfl) (by decide) (by decide) (.cons (avAs_free rfl) .nil) .nil ?_
  rintro _ _ _ hn ⟨z_2, hz_2, rfl, rfl, rfl⟩
  refine ⟨.inr ⟨(by cases z_2 <;> rfl), (.row (cl_map fun _ => rfl) .nil)⟩, (upd (rem [] _) 5 (lstB z_2 1 (r_9.map eStr))), fun hbd => (m3_cons (m3_row rfl (fr_map fun _ => rfl)) (m3_rem (in_nil _) (.cons (by decide) .nil) hbd)), (lstV z_2 5 1 r_9.length), 6, (by cases z_2 <;> rfl), rfl, ?_⟩
  refine un1 (v := (.c (.ref 1 8 0 3))) rfl <| un <| a2n (h' := upd _ 1 (some (.cells 8 [[.str r_6.2.2.Scheme, .str r_6.2.2.Host, cI r_6.2.2.Port, lstC z_2 5 1 r_9.length, .str r_6.2.2.Query, cB r_6.2.2.Asks, .str r_6.2.2.Fragment, cB r_6.2.2.Points]]))) (n' := 6) rfl rfl (fun h => by cases h) <| dnil <| ssr <| un1 (v := (.agg [.str r_6.2.2.Scheme, .str r_6.2.2.Host, cI r_6.2.2.Port, lstC z_2 5 1 r_9.length, .str r_6.2.2.Query, cB r_6.2.2.Asks, .str r_6.2.2.Fragment, cB r_6.2.2.Points])) rfl <| un <| a2n (h' := upd _ 0 (some (.cells 8 [[.str r_6.2.2.Scheme, .str r_6.2.2.Host, cI r_6.2.2.Port, lstC z_2 5 1 r_9.length, .str r_6.2.2.Query, cB r_6.2.2.Asks, .str r_6.2.2.Fragment, cB r_6.2.2.Points]]))) (n' := 6) rfl rfl (fun h => by cases h) <| un1 rfl <| dnil <| Sv.ret ?_
  replace h := Option.some.inj h
  subst h
  exact ⟨_, .refl _, _, rfl, ⟨upd e0 0 (some (.tup [(.agg [.str r_6.2.2.Scheme, .str r_6.2.2.Host, cI r_6.2.2.Port, .ro false 1 (r_9.map eStr), .str r_6.2.2.Query, cB r_6.2.2.Asks, .str r_6.2.2.Fragment, cB r_6.2.2.Points]), (I 0)])), e0, 0⟩, (.tup [(.agg [.str r_6.2.2.Scheme, .str r_6.2.2.Host, cI r_6.2.2.Port, .ro false 1 (r_9.map eStr), .str r_6.2.2.Query, cB r_6.2.2.Asks, .str r_6.2.2.Fragment, cB r_6.2.2.Points]), (I 0)]), weak_canon [] rfl List.nodup_nil (Nat.le_refl _) nlz (.cons rfl (avAs_tup (.cons (avAs_agg (.sm rfl (.sm rfl (.sm rfl (.cons (lstC_ro (es := List.map eStr r_9) rfl (List.length_map eStr).symm (map_nil_of hz_2) (fun b x hx => not_in (bs := []) rfl b (((.nil) : HLt _ _) b x hx)) (fr_map fun _ => rfl)) (.sm rfl (.sm rfl (.sm rfl (.sm rfl .nil))))))))) (.cons (avAs_free rfl) .nil))) .nil) .nil, rfl, rfl, rfl, rfl⟩
noncomputable def r4_Addressed_l2 (r_10 : Tx) (r_3 : (Tx × Tx)) (r_ : (Tx × Bool)) (r_2 : (Tx × Tx)) (r_4 : Tx) (K0_ : Int → Option (TJUrl × Int)) : Nat → Int → Int → Option (TJUrl × Int)
 | 0, _, _ => none
 | k + 1, n_, v75 =>
  if decide (v75 < ((ints r_10).length : Int)) then
   (at? (ints r_10) v75).bind fun x_ =>
   if ((!(r4_Between (wr .i64 x_) 48 57)) || (decide (6 < (r_3.2.length : Int)))) then
    some (r4_Addressed_fn1.1, r4_Addressed_fn1.2)
   else
    (r4_Addressed_l2 r_10 r_3 r_ r_2 r_4 K0_ k) (wi ((wi (10 * n_)) + (wr .i64 (wr .u8 (x_ - 48))))) (wi (v75 + 1))
  else
   K0_ n_
theorem r4_Addressed_l2_ok {mL : Int} {Q : AExit → St → Prop} {r_10 : Tx} {r_3 : (Tx × Tx)} {r_ : (Tx × Bool)} {r_2 : (Tx × Tx)} {r_4 : Tx} {K0_ : Int → Option (TJUrl × Int)} {k : Nat} {n_ : Int} {v75 : Int} {o : (TJUrl × Int)} (h : r4_Addressed_l2 r_10 r_3 r_ r_2 r_4 K0_ k n_ v75 = some o)
  (hK0 : ∀ (n_1 : Int), K0_ n_1 = some o → ∀ s, Weak 0 s ⟨(upd (upd (upd (upd (upd (upd e0 2 (some (.c (.ref 0 8 0 0)))) 4 (some (.c (.fn (.func 26) [] [])))) 5 (some (S r_.1))) 7 (some (.c (.ref 1 8 0 0)))) 9 (some (S r_2.2))) 12 (some (I n_1))), (upd (upd e0 0 (some (.cells 8 [[.str [], .str [], cI 0, .ro true 1 [], .str [], cB false, .str [], cB false]]))) 1 (some (.cells 8 [[.str r_.1, .str r_4, cI 0, .ro true 1 [], .str [], cB false, .str [], cB false]]))), 2⟩ → Q (.exit 0) s)
  (hr : ∀ s, Ends a8.results 0 (r4_Addressed_post o) .ret s → Q .ret s) :
  Sv Tryz.prog (GG mL) 0 (.loop a8_c1) Q ⟨(upd (upd (upd (upd (upd (upd (upd (upd (upd (upd e0 2 (some (.c (.ref 0 8 0 0)))) 4 (some (.c (.fn (.func 26) [] [])))) 5 (some (S r_.1))) 7 (some (.c (.ref 1 8 0 0)))) 9 (some (S r_2.2))) 11 (some (S r_3.2))) 12 (some (I n_))) 73 (some (lstV false 2 1 (ints r_10).length))) 74 (some (I ((ints r_10).length : Int)))) 75 (some (I v75))), (upd (upd (upd e0 0 (some (.cells 8 [[.str [], .str [], cI 0, .ro true 1 [], .str [], cB false, .str [], cB false]]))) 1 (some (.cells 8 [[.str r_.1, .str r_4, cI 0, .ro true 1 [], .str [], cB false, .str [], cB false]]))) 2 (lstB false 1 ((ints r_10).map (eK .u8)))), 3⟩ := by
 refine Sv.loop (I := fun k s => ∃ (n_ : Int), ∃ (v75 : Int), r4_Addressed_l2 r_10 r_3 r_ r_2 r_4 K0_ k n_ v75 = some o ∧ s = ⟨(upd (upd (upd (upd (upd (upd (upd (upd (upd (upd e0 2 (some (.c (.ref 0 8 0 0)))) 4 (some (.c (.fn (.func 26) [] [])))) 5 (some (S r_.1))) 7 (some (.c (.ref 1 8 0 0)))) 9 (some (S r_2.2))) 11 (some (S r_3.2))) 12 (some (I n_))) 73 (some (lstV false 2 1 (ints r_10).length))) 74 (some (I ((ints r_10).length : Int)))) 75 (some (I v75))), (upd (upd (upd e0 0 (some (.cells 8 [[.str [], .str [], cI 0, .ro true 1 [], .str [], cB false, .str [], cB false]]))) 1 (some (.cells 8 [[.str r_.1, .str r_4, cI 0, .ro true 1 [], .str [], cB false, .str [], cB false]]))) 2 (lstB false 1 ((ints r_10).map (eK .u8)))), 3⟩) (fun k s hI => ?_) ⟨n_, v75, h, rfl⟩
 clear h
 clear v75 n_
 obtain ⟨n_, v75, h, rfl⟩ := hI
 cases k with
 | zero => cases h
 | succ k =>
 rw [r4_Addressed_l2] at h
 have hself : ∀ (n_ : Int) (v75 : Int), (r4_Addressed_l2 r_10 r_3 r_ r_2 r_4 K0_ k) n_ v75 = some o → ∀ s, Weak 0 s ⟨(upd (upd (upd (upd (upd (upd (upd (upd (upd (upd e0 2 (some (.c (.ref 0 8 0 0)))) 4 (some (.c (.fn (.func 26) [] [])))) 5 (some (S r_.1))) 7 (some (.c (.ref 1 8 0 0)))) 9 (some (S r_2.2))) 11 (some (S r_3.2))) 12 (some (I n_))) 73 (some (lstV false 2 1 (ints r_10).length))) 74 (some (I ((ints r_10).length : Int)))) 75 (some (I v75))), (upd (upd (upd e0 0 (some (.cells 8 [[.str [], .str [], cI 0, .ro true 1 [], .str [], cB false, .str [], cB false]]))) 1 (some (.cells 8 [[.str r_.1, .str r_4, cI 0, .ro true 1 [], .str [], cB false, .str [], cB false]]))) 2 (lstB false 1 ((ints r_10).map (eK .u8)))), 3⟩ → (AThen (fun s' => ∃ s'' k', Weak 0 s' s'' ∧ k' < k + 1 ∧ (fun k s => ∃ (n_ : Int), ∃ (v75 : Int), r4_Addressed_l2 r_10 r_3 r_ r_2 r_4 K0_ k n_ v75 = some o ∧ s = ⟨(upd (upd (upd (upd (upd (upd (upd (upd (upd (upd e0 2 (some (.c (.ref 0 8 0 0)))) 4 (some (.c (.fn (.func 26) [] [])))) 5 (some (S r_.1))) 7 (some (.c (.ref 1 8 0 0)))) 9 (some (S r_2.2))) 11 (some (S r_3.2))) 12 (some (I n_))) 73 (some (lstV false 2 1 (ints r_10).length))) 74 (some (I ((ints r_10).length : Int)))) 75 (some (I v75))), (upd (upd (upd e0 0 (some (.cells 8 [[.str [], .str [], cI 0, .ro true 1 [], .str [], cB false, .str [], cB false]]))) 1 (some (.cells 8 [[.str r_.1, .str r_4, cI 0, .ro true 1 [], .str [], cB false, .str [], cB false]]))) 2 (lstB false 1 ((ints r_10).map (eK .u8)))), 3⟩) k' s'') Q) .normal s := fun n_ v75 h s hw => ⟨_, k, hw, Nat.lt_succ_self k, n_, v75, h, rfl⟩
 refine ssr <| un1 (v := (B (decide (v75 < ((ints r_10).length : Int))))) rfl <| dnil <| Sv.seq ?_
 refine Sv.cond (b := decide (v75 < ((ints r_10).length : Int))) rfl (fun hc7 => ?_) (fun hc7 => ?_)
 ·replace h := ifT hc7 h
  refine Sv.skip <| Sv.seq <| Sv.block <| ssr ?_
  obtain ⟨x_, hx3, h⟩ := bnd h
  refine un1 (v := (.c (.ref 2 1 v75.toNat 0))) (s_iaddrL rfl rfl (fun h => by cases h) hx3) <| un1 (v := (.c (.val (.int .u8 x_)))) (s_loadL (z := false) (e := (eK .u8)) rfl rfl (fun h => by cases h) hx3 rfl rfl) <| un1 rfl <| dnil <| Sv.seq <| ssr <| un1 rfl <| un1 (v := (I (wr .i64 x_))) rfl <| un <| ac_pure (r4_Between_ok (mL := mL) (wr .i64 x_) 48 57) rfl rfl rfl <| un1 (v := (B (!(r4_Between (wr .i64 x_) 48 57)))) rfl <| un1 rfl ?_
  refine gjoin 4 (d := 87) (v := (B ((!(r4_Between (wr .i64 x_) 48 57)) || (decide (6 < (r_3.2.length : Int)))))) (fun X hX => ?_) ?_
  ·refine split2 (fun hc8 => ?_) (fun hc8 => ?_)
   ·refine gs rfl rfl <| gs rfl rfl <| gs rfl rfl <| un1 (v := (B true)) rfl <| dnil ?_
    exact hX _ (.putEq (by rw [hc8]; rfl) (.skip _ _ (.skip _ _ (.skip _ _ (.putEq (by rw [hc8]) (.refl _)) rfl) rfl) rfl))
   ·refine gt rfl <| a1 rfl <| gt rfl <| a1 (v := (I (r_3.2.length : Int))) rfl <| gt rfl <| a1 (v := (B (decide (6 < (r_3.2.length : Int))))) rfl <| un1 (v := (B (decide (6 < (r_3.2.length : Int))))) rfl <| dnil ?_
    exact hX _ (.putEq (by rw [hc8]; rfl) (.skip _ _ (.skip _ _ (.skip _ _ (.putEq (by rw [hc8]) (.refl _)) rfl) rfl) rfl))
  refine dnil ?_
  refine Sv.cond (b := ((!(r4_Between (wr .i64 x_) 48 57)) || (decide (6 < (r_3.2.length : Int))))) rfl (fun hc9 => ?_) (fun hc9 => ?_)
  ·replace h := ifT hc9 h
   refine ssr <| un1 rfl <| un <| acv_gen (bs := []) («as» := []) (h2 := _) (h1 := e0) rfl (by kernel_rfl) (r4_Addressed_fn1_ok (mL := mL)) rfl .nil (hsub_refl _) (.nil _) (fun _ => rfl) (by decide) (by decide) .nil .nil ?_
   rintro _ _ _ hn ⟨rfl, rfl, rfl⟩
   refine ⟨.inl rfl, (rem [] _), fun hbd => (m3_rem (in_nil _) (.nil) hbd), (.tup [(.agg [.str r4_Addressed_fn1.1.Scheme, .str r4_Addressed_fn1.1.Host, cI r4_Addressed_fn1.1.Port, .ro false 1 (r4_Addressed_fn1.1.Path.map eStr), .str r4_Addressed_fn1.1.Query, cB r4_Addressed_fn1.1.Asks, .str r4_Addressed_fn1.1.Fragment, cB r4_Addressed_fn1.1.Points]), (I r4_Addressed_fn1.2)]), 3, rfl, rfl, ?_⟩
   refine un1 (v := (.agg [.str r4_Addressed_fn1.1.Scheme, .str r4_Addressed_fn1.1.Host, cI r4_Addressed_fn1.1.Port, .ro false 1 (r4_Addressed_fn1.1.Path.map eStr), .str r4_Addressed_fn1.1.Query, cB r4_Addressed_fn1.1.Asks, .str r4_Addressed_fn1.1.Fragment, cB r4_Addressed_fn1.1.Points])) rfl <| un1 (v := (I r4_Addressed_fn1.2)) rfl <| un <| a2n (h' := upd _ 0 (some (.cells 8 [[.str r4_Addressed_fn1.1.Scheme, .str r4_Addressed_fn1.1.Host, cI r4_Addressed_fn1.1.Port, .ro false 1 (r4_Addressed_fn1.1.Path.map eStr), .str r4_Addressed_fn1.1.Query, cB r4_Addressed_fn1.1.Asks, .str r4_Addressed_fn1.1.Fragment, cB r4_Addressed_fn1.1.Points]]))) (n' := 3) rfl rfl (fun h => by cases h) <| un1 rfl <| dnil <| Sv.ret ?_
   replace h := Option.some.inj h
   subst h
   exact hr _ ⟨_, .refl _, _, rfl, ⟨upd e0 0 (some (.tup [(.agg [.str r4_Addressed_fn1.1.Scheme, .str r4_Addressed_fn1.1.Host, cI r4_Addressed_fn1.1.Port, .ro false 1 (r4_Addressed_fn1.1.Path.map eStr), .str r4_Addressed_fn1.1.Query, cB r4_Addressed_fn1.1.Asks, .str r4_Addressed_fn1.1.Fragment, cB r4_Addressed_fn1.1.Points]), (I r4_Addressed_fn1.2)])), e0, 0⟩, (.tup [(.agg [.str r4_Addressed_fn1.1.Scheme, .str r4_Addressed_fn1.1.Host, cI r4_Addressed_fn1.1.Port, .ro false 1 (r4_Addressed_fn1.1.Path.map eStr), .str r4_Addressed_fn1.1.Query, cB r4_Addressed_fn1.1.Asks, .str r4_Addressed_fn1.1.Fragment, cB r4_Addressed_fn1.1.Points]), (I r4_Addressed_fn1.2)]), weak_canon [] rfl List.nodup_nil (Nat.le_refl _) nlz (.cons rfl (avAs_tup (.cons (avAs_free rfl) (.cons (avAs_free rfl) .nil))) .nil) .nil, rfl, rfl, rfl, rfl⟩
  ·replace h := ifF hc9 h
   refine Sv.skip <| srg <| un1 rfl <| un1 (v := (I (wi (10 * n_)))) rfl <| un1 rfl <| un1 (v := (.c (.val (.int .u8 (wr .u8 (x_ - 48)))))) rfl <| un1 (v := (I (wr .i64 (wr .u8 (x_ - 48))))) rfl <| un1 (v := (I (wi ((wi (10 * n_)) + (wr .i64 (wr .u8 (x_ - 48))))))) rfl <| un1 rfl <| dnil <| srg <| un1 (v := (I (wi (v75 + 1)))) rfl <| un1 rfl <| dnil ?_
   exact hself (wi ((wi (10 * n_)) + (wr .i64 (wr .u8 (x_ - 48))))) (wi (v75 + 1)) h _ (wcn [0, 1, 2] rfl (.cf rfl rfl (.cf rfl rfl (.cons rfl (.c (lstC_ren rfl (by decide))) (.cf rfl rfl (.cf rfl rfl (.cf rfl rfl (.cons rfl (.c (.ref rfl (by decide))) (.cf rfl rfl (.cf rfl rfl (.cons rfl (.c (.ref rfl (by decide))) .nil)))))))))) (.row (by decide) rfl (fr_map fun _ => rfl) (.box (by decide) rfl (blkAs_cells (.sm rfl (.sm rfl (.sm rfl (.sm rfl (.sm rfl (.sm rfl (.sm rfl (.sm rfl .nil))))))))) (.box (by decide) rfl (blkAs_cells (.sm rfl (.sm rfl (.sm rfl (.sm rfl (.sm rfl (.sm rfl (.sm rfl (.sm rfl .nil))))))))) .nil))))
 ·replace h := ifF hc7 h
  refine Sv.exit ?_
  exact hK0 n_ h _ (wcn [0, 1] rfl (.cf rfl rfl (.cf rfl rfl (.cons rfl (.c (.ref rfl (by decide))) (.cf rfl rfl (.cf rfl rfl (.cons rfl (.c (.ref rfl (by decide))) .nil)))))) (.box (by decide) rfl (blkAs_cells (.sm rfl (.sm rfl (.sm rfl (.sm rfl (.sm rfl (.sm rfl (.sm rfl (.sm rfl .nil))))))))) (.box (by decide) rfl (blkAs_cells (.sm rfl (.sm rfl (.sm rfl (.sm rfl (.sm rfl (.sm rfl (.sm rfl (.sm rfl .nil))))))))) .nil)))
abbrev r4_Addressed_q0 (mL : Int) (o : (TJUrl × Int)) : AExit → St → Prop := AThen (Sv Tryz.prog (GG mL) 0 a8_c3 (Ends a8.results 0 (r4_Addressed_post o))) (Ends a8.results 0 (r4_Addressed_post o))
noncomputable def r4_Addressed_j1 (s_ : Tx) (r_ : (Tx × Bool)) (v37 : Bool) : Option (TJUrl × Int) :=
 if v37 then
  some (r4_Addressed_fn1.1, r4_Addressed_fn1.2)
 else
  (sub? s_ (wi ((r_.1.length : Int) + 3)) (s_.length : Int)).bind fun r_1 =>
  (r4_parted r_1 [47, 63, 35]).bind fun r_2 =>
  (r4_parted r_2.1 [58]).bind fun r_3 =>
  (r4_lower r_3.1).bind fun r_4 =>
  (r4_hostRight r_4).bind fun r_5 =>
  if (!r_5) then
   some (r4_Addressed_fn1.1, r4_Addressed_fn1.2)
  else
   if (!decide (r_3.2 = [])) then
    (sub? r_3.2 1 (r_3.2.length : Int)).bind fun r_10 =>
    lim fun kk => r4_Addressed_l2 r_10 r_3 r_ r_2 r_4 (fun (n_1 : Int) => 
      if (!(r4_Between n_1 1 65535)) then
       some (r4_Addressed_fn1.1, r4_Addressed_fn1.2)
      else
       if ((!((decide (r_.1 = [104, 116, 116, 112])) && (decide (n_1 = 80)))) && (!((decide (r_.1 = [104, 116, 116, 112, 115])) && (decide (n_1 = 443))))) then
        r4_Addressed_j2 r_ r_4 r_2 n_1
       else
        r4_Addressed_j2 r_ r_4 r_2 0) kk 0 0
   else
    r4_Addressed_j2 r_ r_4 r_2 0
theorem r4_Addressed_j1_ok {mL : Int} {s_ : Tx} {r_ : (Tx × Bool)} {v37 : Bool} {o : (TJUrl × Int)} (h : r4_Addressed_j1 s_ r_ v37 = some o) :
  Sv Tryz.prog (GG mL) 0 a8_c0 (r4_Addressed_q0 mL o) ⟨(upd (upd (upd (upd (upd e0 0 (some (S s_))) 2 (some (.c (.ref 0 8 0 0)))) 4 (some (.c (.fn (.func 26) [] [])))) 5 (some (S r_.1))) 37 (some (B v37))), (upd e0 0 (some (.cells 8 [[.str [], .str [], cI 0, .ro true 1 [], .str [], cB false, .str [], cB false]]))), 1⟩ := by
 unfold r4_Addressed_j1 at h
 refine Sv.cond (b := v37) rfl (fun hc2 => ?_) (fun hc2 => ?_)
 ·replace h := ifT hc2 h
  refine ssr <| un1 rfl <| un <| acv_gen (bs := []) («as» := []) (h2 := _) (h1 := e0) rfl (by kernel_rfl) (r4_Addressed_fn1_ok (mL := mL)) rfl .nil (hsub_refl _) (.nil _) (fun _ => rfl) (by decide) (by decide) .nil .nil ?_
  rintro _ _ _ hn ⟨rfl, rfl, rfl⟩
  refine ⟨.inl rfl, (rem [] _), fun hbd => (m3_rem (in_nil _) (.nil) hbd), (.tup [(.agg [.str r4_Addressed_fn1.1.Scheme, .str r4_Addressed_fn1.1.Host, cI r4_Addressed_fn1.1.Port, .ro false 1 (r4_Addressed_fn1.1.Path.map eStr), .str r4_Addressed_fn1.1.Query, cB r4_Addressed_fn1.1.Asks, .str r4_Addressed_fn1.1.Fragment, cB r4_Addressed_fn1.1.Points]), (I r4_Addressed_fn1.2)]), 1, rfl, rfl, ?_⟩
  refine un1 (v := (.agg [.str r4_Addressed_fn1.1.Scheme, .str r4_Addressed_fn1.1.Host, cI r4_Addressed_fn1.1.Port, .ro false 1 (r4_Addressed_fn1.1.Path.map eStr), .str r4_Addressed_fn1.1.Query, cB r4_Addressed_fn1.1.Asks, .str r4_Addressed_fn1.1.Fragment, cB r4_Addressed_fn1.1.Points])) rfl <| un1 (v := (I r4_Addressed_fn1.2)) rfl <| un <| a2n (h' := upd _ 0 (some (.cells 8 [[.str r4_Addressed_fn1.1.Scheme, .str r4_Addressed_fn1.1.Host, cI r4_Addressed_fn1.1.Port, .ro false 1 (r4_Addressed_fn1.1.Path.map eStr), .str r4_Addressed_fn1.1.Query, cB r4_Addressed_fn1.1.Asks, .str r4_Addressed_fn1.1.Fragment, cB r4_Addressed_fn1.1.Points]]))) (n' := 1) rfl rfl (fun h => by cases h) <| un1 rfl <| dnil <| Sv.ret ?_
  replace h := Option.some.inj h
  subst h
  exact ⟨_, .refl _, _, rfl, ⟨upd e0 0 (some (.tup [(.agg [.str r4_Addressed_fn1.1.Scheme, .str r4_Addressed_fn1.1.Host, cI r4_Addressed_fn1.1.Port, .ro false 1 (r4_Addressed_fn1.1.Path.map eStr), .str r4_Addressed_fn1.1.Query, cB r4_Addressed_fn1.1.Asks, .str r4_Addressed_fn1.1.Fragment, cB r4_Addressed_fn1.1.Points]), (I r4_Addressed_fn1.2)])), e0, 0⟩, (.tup [(.agg [.str r4_Addressed_fn1.1.Scheme, .str r4_Addressed_fn1.1.Host, cI r4_Addressed_fn1.1.Port, .ro false 1 (r4_Addressed_fn1.1.Path.map eStr), .str r4_Addressed_fn1.1.Query, cB r4_Addressed_fn1.1.Asks, .str r4_Addressed_fn1.1.Fragment, cB r4_Addressed_fn1.1.Points]), (I r4_Addressed_fn1.2)]), weak_canon [] rfl List.nodup_nil (Nat.le_refl _) nlz (.cons rfl (avAs_tup (.cons (avAs_free rfl) (.cons (avAs_free rfl) .nil))) .nil) .nil, rfl, rfl, rfl, rfl⟩
 ·replace h := ifF hc2 h
  refine Sv.skip <| ssr <| un1 rfl <| un1 (v := (.agg [.str r_.1, .str [], cI 0, .ro true 1 [], .str [], cB false, .str [], cB false])) rfl <| un <| a2v (v := (.c (.ref 1 8 0 0))) (h' := upd _ 1 (some (.cells 8 [[.str [], .str [], cI 0, .ro true 1 [], .str [], cB false, .str [], cB false]]))) (n' := 2) rfl rfl (fun h => by cases h) <| un <| a2n (h' := upd _ 1 (some (.cells 8 [[.str r_.1, .str [], cI 0, .ro true 1 [], .str [], cB false, .str [], cB false]]))) (n' := 2) rfl rfl (fun h => by cases h) <| dnil <| ssr <| un1 rfl <| un1 rfl <| un1 (v := (I (r_.1.length : Int))) rfl <| un1 (v := (I (wi ((r_.1.length : Int) + 3)))) rfl ?_
  obtain ⟨r_1, hx1, h⟩ := bnd h
  refine un1 (v := (S r_1)) (s_slStr rfl rfl rfl hx1) ?_
  obtain ⟨r_2, hr2, h⟩ := bnd h
  refine un <| ac_pure (r4_parted_ok hr2) rfl rfl rfl <| un1 rfl <| un1 (v := (S r_2.1)) rfl <| un1 (v := (S r_2.2)) rfl <| un1 rfl <| un1 rfl <| dnil <| ssr <| un1 rfl ?_
  obtain ⟨r_3, hr3, h⟩ := bnd h
  refine un <| ac_pure (r4_parted_ok hr3) rfl rfl rfl <| un1 rfl <| un1 (v := (S r_3.1)) rfl <| un1 (v := (S r_3.2)) rfl <| un1 rfl <| un1 rfl <| dnil <| ssr <| un1 rfl ?_
  obtain ⟨r_4, hr4, h⟩ := bnd h
  refine un <| ac_pure (r4_lower_ok hr4) rfl rfl rfl <| un1 (v := (.c (.ref 1 8 0 1))) rfl <| un <| a2n (h' := upd _ 1 (some (.cells 8 [[.str r_.1, .str r_4, cI 0, .ro true 1 [], .str [], cB false, .str [], cB false]]))) (n' := 2) rfl rfl (fun h => by cases h) <| dnil <| Sv.seq <| ssr <| un1 (v := (.c (.ref 1 8 0 1))) rfl <| un1 (v := (S r_4)) rfl ?_
  obtain ⟨r_5, hr5, h⟩ := bnd h
  refine un <| ac_pure (r4_hostRight_ok hr5) rfl rfl rfl <| un1 (v := (B (!r_5))) rfl <| dnil ?_
  refine Sv.cond (b := (!r_5)) rfl (fun hc3 => ?_) (fun hc3 => ?_)
  ·replace h := ifT hc3 h
   refine ssr <| un1 rfl <| un <| acv_gen (bs := []) («as» := []) (h2 := _) (h1 := e0) rfl (by kernel_rfl) (r4_Addressed_fn1_ok (mL := mL)) rfl .nil (hsub_refl _) (.nil _) (fun _ => rfl) (by decide) (by decide) .nil .nil ?_
   rintro _ _ _ hn ⟨rfl, rfl, rfl⟩
   refine ⟨.inl rfl, (rem [] _), fun hbd => (m3_rem (in_nil _) (.nil) hbd), (.tup [(.agg [.str r4_Addressed_fn1.1.Scheme, .str r4_Addressed_fn1.1.Host, cI r4_Addressed_fn1.1.Port, .ro false 1 (r4_Addressed_fn1.1.Path.map eStr), .str r4_Addressed_fn1.1.Query, cB r4_Addressed_fn1.1.Asks, .str r4_Addressed_fn1.1.Fragment, cB r4_Addressed_fn1.1.Points]), (I r4_Addressed_fn1.2)]), 2, rfl, rfl, ?_⟩
   refine un1 (v := (.agg [.str r4_Addressed_fn1.1.Scheme, .str r4_Addressed_fn1.1.Host, cI r4_Addressed_fn1.1.Port, .ro false 1 (r4_Addressed_fn1.1.Path.map eStr), .str r4_Addressed_fn1.1.Query, cB r4_Addressed_fn1.1.Asks, .str r4_Addressed_fn1.1.Fragment, cB r4_Addressed_fn1.1.Points])) rfl <| un1 (v := (I r4_Addressed_fn1.2)) rfl <| un <| a2n (h' := upd _ 0 (some (.cells 8 [[.str r4_Addressed_fn1.1.Scheme, .str r4_Addressed_fn1.1.Host, cI r4_Addressed_fn1.1.Port, .ro false 1 (r4_Addressed_fn1.1.Path.map eStr), .str r4_Addressed_fn1.1.Query, cB r4_Addressed_fn1.1.Asks, .str r4_Addressed_fn1.1.Fragment, cB r4_Addressed_fn1.1.Points]]))) (n' := 2) rfl rfl (fun h => by cases h) <| un1 rfl <| dnil <| Sv.ret ?_
   replace h := Option.some.inj h
   subst h
   exact ⟨_, .refl _, _, rfl, ⟨upd e0 0 (some (.tup [(.agg [.str r4_Addressed_fn1.1.Scheme, .str r4_Addressed_fn1.1.Host, cI r4_Addressed_fn1.1.Port, .ro false 1 (r4_Addressed_fn1.1.Path.map eStr), .str r4_Addressed_fn1.1.Query, cB r4_Addressed_fn1.1.Asks, .str r4_Addressed_fn1.1.Fragment, cB r4_Addressed_fn1.1.Points]), (I r4_Addressed_fn1.2)])), e0, 0⟩, (.tup [(.agg [.str r4_Addressed_fn1.1.Scheme, .str r4_Addressed_fn1.1.Host, cI r4_Addressed_fn1.1.Port, .ro false 1 (r4_Addressed_fn1.1.Path.map eStr), .str r4_Addressed_fn1.1.Query, cB r4_Addressed_fn1.1.Asks, .str r4_Addressed_fn1.1.Fragment, cB r4_Addressed_fn1.1.Points]), (I r4_Addressed_fn1.2)]), weak_canon [] rfl List.nodup_nil (Nat.le_refl _) nlz (.cons rfl (avAs_tup (.cons (avAs_free rfl) (.cons (avAs_free rfl) .nil))) .nil) .nil, rfl, rfl, rfl, rfl⟩
  ·replace h := ifF hc3 h
   refine Sv.skip <| Sv.seq <| ssr <| un1 rfl <| un1 (v := (B (!decide (r_3.2 = [])))) rfl <| dnil ?_
   refine Sv.cond (b := (!decide (r_3.2 = []))) rfl (fun hc6 => ?_) (fun hc6 => ?_)
   ·replace h := ifT hc6 h
    refine ssr <| un1 rfl <| dnil <| Sv.seq <| ssr <| un1 rfl ?_
    obtain ⟨r_10, hx2, h⟩ := bnd h
    refine un1 (v := (S r_10)) (s_slStr rfl rfl rfl hx2) <| un <| a2v (v := (lstV false 2 1 (ints r_10).length)) (h' := upd _ 2 (lstB false 1 ((ints r_10).map (eK .u8)))) (n' := 3) rfl (s_toBytes rfl) (fun h => by cases h) <| un1 (v := (I ((ints r_10).length : Int))) (s_lenL rfl (len_nil_of (fun h => by cases h))) <| un1 rfl <| dnil <| Sv.block ?_
    obtain ⟨kk, h⟩ := lim_some h
    refine Sv.weak (wcn [0, 1, 2] rfl (.cf rfl rfl (.cf rfl rfl (.cons rfl (.c (lstC_ren rfl (by decide))) (.cf rfl rfl (.cf rfl rfl (.cf rfl rfl (.cons rfl (.c (.ref rfl (by decide))) (.cf rfl rfl (.cf rfl rfl (.cons rfl (.c (.ref rfl (by decide))) .nil)))))))))) (.row (by decide) rfl (fr_map fun _ => rfl) (.box (by decide) rfl (blkAs_cells (.sm rfl (.sm rfl (.sm rfl (.sm rfl (.sm rfl (.sm rfl (.sm rfl (.sm rfl .nil))))))))) (.box (by decide) rfl (blkAs_cells (.sm rfl (.sm rfl (.sm rfl (.sm rfl (.sm rfl (.sm rfl (.sm rfl (.sm rfl .nil))))))))) .nil)))) (r4_Addressed_l2_ok h ?_ (fun s hs => hs))
    ·intro n_1 h _ hw1
     refine Sv.weak hw1 <| Sv.seq <| ssr <| un1 rfl <| un <| ac_pure (r4_Between_ok (mL := mL) n_1 1 65535) rfl rfl rfl <| un1 (v := (B (!(r4_Between n_1 1 65535)))) rfl <| dnil ?_
     refine Sv.cond (b := (!(r4_Between n_1 1 65535))) rfl (fun hc10 => ?_) (fun hc10 => ?_)
     ·replace h := ifT hc10 h
      refine ssr <| un1 rfl <| un <| acv_gen (bs := []) («as» := []) (h2 := _) (h1 := e0) rfl (by kernel_rfl) (r4_Addressed_fn1_ok (mL := mL)) rfl .nil (hsub_refl _) (.nil _) (fun _ => rfl) (by decide) (by decide) .nil .nil ?_
      rintro _ _ _ hn ⟨rfl, rfl, rfl⟩
      refine ⟨.inl rfl, (rem [] _), fun hbd => (m3_rem (in_nil _) (.nil) hbd), (.tup [(.agg [.str r4_Addressed_fn1.1.Scheme, .str r4_Addressed_fn1.1.Host, cI r4_Addressed_fn1.1.Port, .ro false 1 (r4_Addressed_fn1.1.Path.map eStr), .str r4_Addressed_fn1.1.Query, cB r4_Addressed_fn1.1.Asks, .str r4_Addressed_fn1.1.Fragment, cB r4_Addressed_fn1.1.Points]), (I r4_Addressed_fn1.2)]), 2, rfl, rfl, ?_⟩
      refine un1 (v := (.agg [.str r4_Addressed_fn1.1.Scheme, .str r4_Addressed_fn1.1.Host, cI r4_Addressed_fn1.1.Port, .ro false 1 (r4_Addressed_fn1.1.Path.map eStr), .str r4_Addressed_fn1.1.Query, cB r4_Addressed_fn1.1.Asks, .str r4_Addressed_fn1.1.Fragment, cB r4_Addressed_fn1.1.Points])) rfl <| un1 (v := (I r4_Addressed_fn1.2)) rfl <| un <| a2n (h' := upd _ 0 (some (.cells 8 [[.str r4_Addressed_fn1.1.Scheme, .str r4_Addressed_fn1.1.Host, cI r4_Addressed_fn1.1.Port, .ro false 1 (r4_Addressed_fn1.1.Path.map eStr), .str r4_Addressed_fn1.1.Query, cB r4_Addressed_fn1.1.Asks, .str r4_Addressed_fn1.1.Fragment, cB r4_Addressed_fn1.1.Points]]))) (n' := 2) rfl rfl (fun h => by cases h) <| un1 rfl <| dnil <| Sv.ret ?_
      replace h := Option.some.inj h
      subst h
      exact ⟨_, .refl _, _, rfl, ⟨upd e0 0 (some (.tup [(.agg [.str r4_Addressed_fn1.1.Scheme, .str r4_Addressed_fn1.1.Host, cI r4_Addressed_fn1.1.Port, .ro false 1 (r4_Addressed_fn1.1.Path.map eStr), .str r4_Addressed_fn1.1.Query, cB r4_Addressed_fn1.1.Asks, .str r4_Addressed_fn1.1.Fragment, cB r4_Addressed_fn1.1.Points]), (I r4_Addressed_fn1.2)])), e0, 0⟩, (.tup [(.agg [.str r4_Addressed_fn1.1.Scheme, .str r4_Addressed_fn1.1.Host, cI r4_Addressed_fn1.1.Port, .ro false 1 (r4_Addressed_fn1.1.Path.map eStr), .str r4_Addressed_fn1.1.Query, cB r4_Addressed_fn1.1.Asks, .str r4_Addressed_fn1.1.Fragment, cB r4_Addressed_fn1.1.Points]), (I r4_Addressed_fn1.2)]), weak_canon [] rfl List.nodup_nil (Nat.le_refl _) nlz (.cons rfl (avAs_tup (.cons (avAs_free rfl) (.cons (avAs_free rfl) .nil))) .nil) .nil, rfl, rfl, rfl, rfl⟩
     ·replace h := ifF hc10 h
      refine Sv.skip <| ssr <| un1 rfl <| un1 (v := (B (decide (r_.1 = [104, 116, 116, 112])))) rfl <| un1 rfl ?_
      refine gjoin 3 (d := 111) (v := (B ((decide (r_.1 = [104, 116, 116, 112])) && (decide (n_1 = 80))))) (fun X hX => ?_) ?_
      ·refine split2 (fun hc11 => ?_) (fun hc11 => ?_)
       ·refine gt rfl <| a1 rfl <| gt rfl <| a1 (v := (B (decide (n_1 = 80)))) rfl <| un1 (v := (B (decide (n_1 = 80)))) rfl <| dnil ?_
        exact hX _ (.putEq (by rw [hc11]; rfl) (.skip _ _ (.skip _ _ (.putEq (by rw [hc11]) (.refl _)) rfl) rfl))
       ·refine gs rfl rfl <| gs rfl rfl <| un1 (v := (B false)) rfl <| dnil ?_
        exact hX _ (.putEq (by rw [hc11]; rfl) (.skip _ _ (.skip _ _ (.putEq (by rw [hc11]) (.refl _)) rfl) rfl))
      refine un1 (v := (B (!((decide (r_.1 = [104, 116, 116, 112])) && (decide (n_1 = 80)))))) rfl <| un1 rfl ?_
      refine gjoin 8 (d := 121) (v := (B ((!((decide (r_.1 = [104, 116, 116, 112])) && (decide (n_1 = 80)))) && (!((decide (r_.1 = [104, 116, 116, 112, 115])) && (decide (n_1 = 443))))))) (fun X hX => ?_) ?_
      ·refine split2 (fun hc13 => ?_) (fun hc13 => ?_)
       ·refine gt rfl <| a1 rfl <| gt rfl <| a1 (v := (B (decide (r_.1 = [104, 116, 116, 112, 115])))) rfl <| gt rfl <| a1 rfl ?_
        refine gjoin 3 (d := 119) (v := (B ((decide (r_.1 = [104, 116, 116, 112, 115])) && (decide (n_1 = 443))))) (fun X hX => ?_) ?_
        ·refine split2 (fun hc12 => ?_) (fun hc12 => ?_)
         ·refine gt rfl <| a1 rfl <| gt rfl <| a1 (v := (B (decide (n_1 = 443)))) rfl <| gt rfl <| a1 (v := (B (decide (n_1 = 443)))) rfl <| dnil ?_
          exact hX _ (.putEq (by rw [hc12]; rfl) (.skip _ _ (.skip _ _ (.putEq (by rw [hc12]) (.refl _)) rfl) rfl))
         ·refine gs rfl rfl <| gs rfl rfl <| gt rfl <| a1 (v := (B false)) rfl <| dnil ?_
          exact hX _ (.putEq (by rw [hc12]; rfl) (.skip _ _ (.skip _ _ (.putEq (by rw [hc12]) (.refl _)) rfl) rfl))
        refine gt rfl <| a1 (v := (B (!((decide (r_.1 = [104, 116, 116, 112, 115])) && (decide (n_1 = 443)))))) rfl <| un1 (v := (B (!((decide (r_.1 = [104, 116, 116, 112, 115])) && (decide (n_1 = 443)))))) rfl <| dnil ?_
        exact hX _ (.putEq (by rw [hc13]; rfl) (.skip _ _ (.skip _ _ (.skip _ _ (.skip _ _ (.skip _ _ (.putEq (by rw [hc13]) (.refl _)) rfl) rfl) rfl) rfl) rfl))
       ·refine gs rfl rfl <| gs rfl rfl <| gs rfl rfl <| gu rfl <| gu rfl <| gs rfl rfl <| gs rfl rfl <| un1 (v := (B false)) rfl <| dnil ?_
        exact hX _ (.putEq (by rw [hc13]; rfl) (.skip _ _ (.skip _ _ (.skip _ _ (.skip _ _ (.skip _ _ (.skip _ _ (.skip _ _ (.putEq (by rw [hc13]) (.refl _)) rfl) rfl) rfl) rfl) rfl) rfl) rfl))
      refine dnil ?_
      refine Sv.cond (b := ((!((decide (r_.1 = [104, 116, 116, 112])) && (decide (n_1 = 80)))) && (!((decide (r_.1 = [104, 116, 116, 112, 115])) && (decide (n_1 = 443)))))) rfl (fun hc14 => ?_) (fun hc14 => ?_)
      ·replace h := ifT hc14 h
       refine srg <| un1 rfl <| un1 (v := (.c (.ref 1 8 0 2))) rfl <| un <| a2n (h' := upd _ 1 (some (.cells 8 [[.str r_.1, .str r_4, cI n_1, .ro true 1 [], .str [], cB false, .str [], cB false]]))) (n' := 2) rfl rfl (fun h => by cases h) <| dnil ?_
       exact Sv.weak (wcn [0, 1] rfl (.cf rfl rfl (.cons rfl (.c (.ref rfl (by decide))) (.cf rfl rfl (.cons rfl (.c (.ref rfl (by decide))) .nil)))) (.box (by decide) rfl (blkAs_cells (.sm rfl (.sm rfl (.sm rfl (.sm rfl (.sm rfl (.sm rfl (.sm rfl (.sm rfl .nil))))))))) (.box (by decide) rfl (blkAs_cells (.sm rfl (.sm rfl (.sm rfl (.sm rfl (.sm rfl (.sm rfl (.sm rfl (.sm rfl .nil))))))))) .nil))) (r4_Addressed_j2_ok h)
      ·replace h := ifF hc14 h
       refine Sv.skip ?_
       exact Sv.weak (wcn [0, 1] rfl (.cf rfl rfl (.cons rfl (.c (.ref rfl (by decide))) (.cf rfl rfl (.cons rfl (.c (.ref rfl (by decide))) .nil)))) (.box (by decide) rfl (blkAs_cells (.sm rfl (.sm rfl (.sm rfl (.sm rfl (.sm rfl (.sm rfl (.sm rfl (.sm rfl .nil))))))))) (.box (by decide) rfl (blkAs_cells (.sm rfl (.sm rfl (.sm rfl (.sm rfl (.sm rfl (.sm rfl (.sm rfl (.sm rfl .nil))))))))) .nil))) (r4_Addressed_j2_ok h)
   ·replace h := ifF hc6 h
    refine Sv.skip ?_
    exact Sv.weak (wcn [0, 1] rfl (.cf rfl rfl (.cons rfl (.c (.ref rfl (by decide))) (.cf rfl rfl (.cons rfl (.c (.ref rfl (by decide))) .nil)))) (.box (by decide) rfl (blkAs_cells (.sm rfl (.sm rfl (.sm rfl (.sm rfl (.sm rfl (.sm rfl (.sm rfl (.sm rfl .nil))))))))) (.box (by decide) rfl (blkAs_cells (.sm rfl (.sm rfl (.sm rfl (.sm rfl (.sm rfl (.sm rfl (.sm rfl (.sm rfl .nil))))))))) .nil))) (r4_Addressed_j2_ok h)
/-- clerestory/clerestoryref4.Addressed -/
noncomputable def r4_Addressed (s_ : Tx) : Option (TJUrl × Int) :=
 if decide (500 < (s_.length : Int)) then
  some ((⟨[], [], 0, [], [], false, [], false⟩ : TJUrl), 2)
 else
  (r4_SchemeOf s_).bind fun r_ =>
  if (!r_.2) then
   r4_Addressed_j1 s_ r_ true
  else
   (sub? s_ (r_.1.length : Int) (s_.length : Int)).bind fun r_11 =>
   (strings_HasPrefix r_11 [58, 47, 47]).bind fun r_12 =>
   r4_Addressed_j1 s_ r_ (!r_12)
theorem r4_Addressed_ok {mL : Int} {s_ : Tx} {r : (TJUrl × Int)} (h : r4_Addressed s_ = some r) : CPure Tryz.prog (GG mL) 8 [(S s_)] (.tup [(.agg [.str r.1.Scheme, .str r.1.Host, cI r.1.Port, .ro false 1 (r.1.Path.map eStr), .str r.1.Query, cB r.1.Asks, .str r.1.Fragment, cB r.1.Points]), (I r.2)]) := by
 refine acalls_of_sv hmix c8 (R := r4_Addressed_post r) ?_
 unfold r4_Addressed at h
 refine ssr <| un <| a2v (v := (.c (.ref 0 8 0 0))) (h' := upd _ 0 (some (.cells 8 [[.str [], .str [], cI 0, .ro true 1 [], .str [], cB false, .str [], cB false]]))) (n' := 1) rfl rfl (fun h => by cases h) <| un1 rfl <| dnil <| ssr <| un1 rfl <| dnil <| Sv.seq <| ssr <| un1 rfl <| un1 (v := (I (s_.length : Int))) rfl <| un1 (v := (B (decide (500 < (s_.length : Int))))) rfl <| dnil ?_
 refine Sv.cond (b := decide (500 < (s_.length : Int))) rfl (fun hc1 => ?_) (fun hc1 => ?_)
 ·replace h := ifT hc1 h
  refine ssr <| un1 (v := (.agg [.str [], .str [], cI 0, .ro true 1 [], .str [], cB false, .str [], cB false])) rfl <| un <| a2n (h' := upd _ 0 (some (.cells 8 [[.str [], .str [], cI 0, .ro true 1 [], .str [], cB false, .str [], cB false]]))) (n' := 1) rfl rfl (fun h => by cases h) <| un1 rfl <| dnil <| Sv.ret ?_
  replace h := Option.some.inj h
  subst h
  exact ⟨_, .refl _, _, rfl, ⟨upd e0 0 (some (.tup [(.agg [.str [], .str [], cI 0, .ro false 1 (([] : TT).map eStr), .str [], cB false, .str [], cB false]), (I 2)])), e0, 0⟩, (.tup [(.agg [.str [], .str [], cI 0, .ro false 1 (([] : TT).map eStr), .str [], cB false, .str [], cB false]), (I 2)]), weak_canon [] rfl List.nodup_nil (Nat.le_refl _) nlz (.cons rfl (avAs_tup (.cons (avAs_agg (.sm rfl (.sm rfl (.sm rfl (.cons .nil (.sm rfl (.sm rfl (.sm rfl (.sm rfl .nil))))))))) (.cons (avAs_free rfl) .nil))) .nil) .nil, rfl, rfl, rfl, rfl⟩
 ·replace h := ifF hc1 h
  refine Sv.skip <| ssr <| un1 rfl ?_
  obtain ⟨r_, hr1, h⟩ := bnd h
  refine un <| ac_pure (r4_SchemeOf_ok hr1) rfl rfl rfl <| un1 rfl <| un1 (v := (S r_.1)) rfl <| un1 (v := (B r_.2)) rfl <| un1 rfl <| un1 rfl <| dnil <| Sv.seq <| ssr <| un1 rfl <| un1 (v := (B (!r_.2))) rfl <| un1 rfl ?_
  refine split2 (fun hc15 => ?_) (fun hc15 => ?_)
  ·replace h := ifT hc15 h
   refine gs rfl rfl <| gs rfl rfl <| gs rfl rfl <| gs rfl rfl <| gs rfl rfl <| gs rfl rfl <| un1 (v := (B true)) rfl <| dnil ?_
   exact Sv.weak (wcn [0] rfl (.cf rfl rfl (.cf rfl rfl (.cf rfl rfl (.cons rfl (.c (.ref rfl (by decide))) (.cf rfl rfl .nil))))) (.box (by decide) rfl (blkAs_cells (.sm rfl (.sm rfl (.sm rfl (.sm rfl (.sm rfl (.sm rfl (.sm rfl (.sm rfl .nil))))))))) .nil)) (r4_Addressed_j1_ok h)
  ·replace h := ifF hc15 h
   refine gt rfl <| a1 rfl <| gt rfl <| a1 rfl <| gt rfl <| a1 (v := (I (r_.1.length : Int))) rfl ?_
   obtain ⟨r_11, hx4, h⟩ := bnd h
   refine gt rfl <| a1 (v := (S r_11)) (s_slStr rfl rfl rfl hx4) ?_
   obtain ⟨r_12, hr10, h⟩ := bnd h
   refine gt rfl <| ac_pure (strings_HasPrefix_ok hr10) rfl rfl rfl <| gt rfl <| a1 (v := (B (!r_12))) rfl <| un1 (v := (B (!r_12))) rfl <| dnil ?_
   exact Sv.weak (wcn [0] rfl (.cf rfl rfl (.cf rfl rfl (.cf rfl rfl (.cons rfl (.c (.ref rfl (by decide))) (.cf rfl rfl .nil))))) (.box (by decide) rfl (blkAs_cells (.sm rfl (.sm rfl (.sm rfl (.sm rfl (.sm rfl (.sm rfl (.sm rfl (.sm rfl .nil))))))))) .nil)) (r4_Addressed_j1_ok h)
def a10_c0 : ACode := (.seq (.region [(mV 19 3), (mV 2 19)])
 .ret)
def a10 : AFunc := ⟨1, [(.tmp 2)], (.seq (.region [(oP 1 (.box (.tmp 0))), ⟨(some 2), (.mov (.const (.c (.str [])))), none⟩])
 (.seq (.region [(oP 4 (.faddr 0 (.tmp 1))), (oP 5 (.load false 1 (.tmp 4))), ⟨(some 6), (.bin .add (.tmp 5) (.const (.c (.str [58, 47, 47])))), none⟩, (oP 7 (.faddr 1 (.tmp 1))), (oP 8 (.load false 1 (.tmp 7))), (oP 9 (.bin .add (.tmp 6) (.tmp 8))), (mV 3 9)])
 (.seq (.seq (.region [(oP 10 (.faddr 2 (.tmp 1))), (oP 11 (.load false 1 (.tmp 10))), ⟨(some 12), (.bin .neq (.tmp 11) (kI 0)), none⟩])
 (.cond (.tmp 12) (.region [(mV 13 3), (oP 14 (.faddr 2 (.tmp 1))), (oP 15 (.load false 1 (.tmp 14))), (oP 16 (.call 36 [(.tmp 15)])), ⟨(some 17), (.bin .add (.const (.c (.str [58]))) (.tmp 16)), none⟩, (oP 18 (.bin .add (.tmp 13) (.tmp 17))), (mV 3 18)]) .skip))
 a10_c0)))⟩
set_option maxRecDepth 100000 in
theorem c10 : compFunc Tryz.prog 10 = some a10 := by kernel_rfl
def r4_OriginOf_post (r : Tx) : AV → Heap → Nat → Prop := fun v h' n' => v = (S r) ∧ (h' = e0) ∧ n' = 0
noncomputable def r4_OriginOf_j1 (out : Tx) : Option Tx :=
 some out
theorem r4_OriginOf_j1_ok {mL : Int} {out : Tx} {o : Tx} (h : r4_OriginOf_j1 out = some o) :
  Sv Tryz.prog (GG mL) 0 a10_c0 (Ends a10.results 0 (r4_OriginOf_post o)) ⟨(upd e0 3 (some (S out))), e0, 0⟩ := by
 unfold r4_OriginOf_j1 at h
 refine ssr <| un1 rfl <| un1 rfl <| dnil <| Sv.ret ?_
 replace h := Option.some.inj h
 subst h
 exact ⟨_, .refl _, _, rfl, ⟨upd e0 0 (some (S out)), e0, 0⟩, (S out), weak_canon [] rfl List.nodup_nil (Nat.le_refl _) nlz (.cf rfl rfl .nil) .nil, rfl, rfl, rfl, rfl⟩
/-- clerestory/clerestoryref4.OriginOf -/
noncomputable def r4_OriginOf (u_ : TJUrl) : Option Tx :=
 (cat? u_.Scheme [58, 47, 47]).bind fun r_ =>
 (cat? r_ u_.Host).bind fun r_1 =>
 if (!decide (u_.Port = 0)) then
  (strconv_Itoa u_.Port).bind fun r_2 =>
  (cat? [58] r_2).bind fun r_3 =>
  (cat? r_1 r_3).bind fun r_4 =>
  r4_OriginOf_j1 r_4
 else
  r4_OriginOf_j1 r_1
theorem r4_OriginOf_ok {mL : Int} {u_ : TJUrl} {r : Tx} (h : r4_OriginOf u_ = some r) : CPure Tryz.prog (GG mL) 10 [(.agg [.str u_.Scheme, .str u_.Host, cI u_.Port, .ro false 1 (u_.Path.map eStr), .str u_.Query, cB u_.Asks, .str u_.Fragment, cB u_.Points])] (S r) := by
 refine acalls_of_sv hmix c10 (R := r4_OriginOf_post r) ?_
 unfold r4_OriginOf at h
 refine ssr <| un <| a2v (v := (.c (.ref 0 8 0 0))) (h' := upd _ 0 (some (.cells 8 [[.str u_.Scheme, .str u_.Host, cI u_.Port, .ro false 1 (u_.Path.map eStr), .str u_.Query, cB u_.Asks, .str u_.Fragment, cB u_.Points]]))) (n' := 1) rfl rfl (fun h => by cases h) <| un1 rfl <| dnil <| ssr <| un1 (v := (.c (.ref 0 8 0 0))) rfl <| un1 (v := (S u_.Scheme)) rfl ?_
 obtain ⟨r_, hx1, h⟩ := bnd h
 refine un1 (v := (S r_)) (s_cat rfl rfl hx1) <| un1 (v := (.c (.ref 0 8 0 1))) rfl <| un1 (v := (S u_.Host)) rfl ?_
 obtain ⟨r_1, hx2, h⟩ := bnd h
 refine un1 (v := (S r_1)) (s_cat rfl rfl hx2) <| un1 rfl <| dnil <| Sv.seq <| ssr <| un1 (v := (.c (.ref 0 8 0 2))) rfl <| un1 (v := (I u_.Port)) rfl <| un1 (v := (B (!decide (u_.Port = 0)))) rfl <| dnil ?_
 refine Sv.cond (b := (!decide (u_.Port = 0))) rfl (fun hc1 => ?_) (fun hc1 => ?_)
 ·replace h := ifT hc1 h
  refine srg <| un1 rfl <| un1 (v := (.c (.ref 0 8 0 2))) rfl <| un1 (v := (I u_.Port)) rfl ?_
  obtain ⟨r_2, hr1, h⟩ := bnd h
  refine un <| ac_pure (strconv_Itoa_ok hr1) rfl rfl rfl ?_
  obtain ⟨r_3, hx3, h⟩ := bnd h
  refine un1 (v := (S r_3)) (s_cat rfl rfl hx3) ?_
  obtain ⟨r_4, hx4, h⟩ := bnd h
  refine un1 (v := (S r_4)) (s_cat rfl rfl hx4) <| un1 rfl <| dnil ?_
  exact Sv.weak (wcn [] rfl (.cf rfl rfl .nil) .nil) (r4_OriginOf_j1_ok h)
 ·replace h := ifF hc1 h
  refine Sv.skip ?_
  exact Sv.weak (wcn [] rfl (.cf rfl rfl .nil) .nil) (r4_OriginOf_j1_ok h)
def a14_c0 : ACode := (.seq (.region [(oP 12 (.bin .lss (.tmp 11) (.tmp 10)))])
 (.seq (.cond (.tmp 12) .skip (.exit 0))
 (.seq (.block 1 (.seq (.region [(oP 13 (.iaddr 1 (.tmp 9) (.tmp 11))), (oP 14 (.load false 1 (.tmp 13))), (mV 5 14)])
 (.region [(mV 15 3), (mV 16 5), (oP 17 (.call 39 [(.tmp 16)])), ⟨(some 18), (.bin .add (.const (.c (.str [47]))) (.tmp 17)), none⟩, (oP 19 (.bin .add (.tmp 15) (.tmp 18))), (mV 3 19)])))
 (.region [⟨(some 20), (.bin .add (.tmp 11) (kI 1)), none⟩, (mV 11 20)]))))
def a14_c2 : ACode := (.seq (.region [(mV 35 3), (mV 2 35)])
 .ret)
def a14_c1 : ACode := (.seq (.seq (.region [(oP 28 (.faddr 7 (.tmp 1))), (oP 29 (.load false 1 (.tmp 28)))])
 (.cond (.tmp 29) (.region [(mV 30 3), (oP 31 (.faddr 6 (.tmp 1))), (oP 32 (.load false 1 (.tmp 31))), ⟨(some 33), (.bin .add (.const (.c (.str [35]))) (.tmp 32)), none⟩, (oP 34 (.bin .add (.tmp 30) (.tmp 33))), (mV 3 34)]) .skip))
 a14_c2)
def a14 : AFunc := ⟨1, [(.tmp 2)], (.seq (.region [(oP 1 (.box (.tmp 0))), ⟨(some 2), (.mov (.const (.c (.str [])))), none⟩])
 (.seq (.region [(oP 6 (.load true 8 (.tmp 1))), (oP 7 (.call 10 [(.tmp 6)])), (mV 3 7)])
 (.seq (.seq (.region [(oP 8 (.faddr 3 (.tmp 1))), (oP 9 (.load false 1 (.tmp 8))), (oP 10 (.len (.tmp 9))), ⟨(some 11), (.mov (kI 0)), none⟩])
 (.block 0 (.loop a14_c0)))
 (.seq (.seq (.region [(oP 21 (.faddr 5 (.tmp 1))), (oP 22 (.load false 1 (.tmp 21)))])
 (.cond (.tmp 22) (.region [(mV 23 3), (oP 24 (.faddr 4 (.tmp 1))), (oP 25 (.load false 1 (.tmp 24))), ⟨(some 26), (.bin .add (.const (.c (.str [63]))) (.tmp 25)), none⟩, (oP 27 (.bin .add (.tmp 23) (.tmp 26))), (mV 3 27)]) .skip))
 a14_c1))))⟩
set_option maxRecDepth 100000 in
theorem c14 : compFunc Tryz.prog 14 = some a14 := by kernel_rfl
def r4_AddressText_post (r : Tx) : AV → Heap → Nat → Prop := fun v h' n' => v = (S r) ∧ (h' = e0) ∧ n' = 0
noncomputable def r4_AddressText_l0 (u_ : TJUrl) (K0_ : Tx → Option Tx) : Nat → Tx → Int → Option Tx
 | 0, _, _ => none
 | k + 1, out, v11 =>
  if decide (v11 < (u_.Path.length : Int)) then
   (at? u_.Path v11).bind fun x_ =>
   (r4_Encoded x_).bind fun r_1 =>
   (cat? [47] r_1).bind fun r_2 =>
   (cat? out r_2).bind fun r_3 =>
   (r4_AddressText_l0 u_ K0_ k) r_3 (wi (v11 + 1))
  else
   K0_ out
theorem r4_AddressText_l0_ok {mL : Int} {Q : AExit → St → Prop} {u_ : TJUrl} {K0_ : Tx → Option Tx} {k : Nat} {out : Tx} {v11 : Int} {o : Tx} (h : r4_AddressText_l0 u_ K0_ k out v11 = some o)
  (hK0 : ∀ (out1 : Tx), K0_ out1 = some o → ∀ s, Weak 0 s ⟨(upd (upd e0 1 (some (.c (.ref 0 8 0 0)))) 3 (some (S out1))), (upd e0 0 (some (.cells 8 [[.str u_.Scheme, .str u_.Host, cI u_.Port, .ro false 1 (u_.Path.map eStr), .str u_.Query, cB u_.Asks, .str u_.Fragment, cB u_.Points]]))), 1⟩ → Q (.exit 0) s)
  (hr : ∀ s, Ends a14.results 0 (r4_AddressText_post o) .ret s → Q .ret s) :
  Sv Tryz.prog (GG mL) 0 (.loop a14_c0) Q ⟨(upd (upd (upd (upd (upd e0 1 (some (.c (.ref 0 8 0 0)))) 3 (some (S out))) 9 (some (.c (.ro false 1 (u_.Path.map eStr))))) 10 (some (I (u_.Path.length : Int)))) 11 (some (I v11))), (upd e0 0 (some (.cells 8 [[.str u_.Scheme, .str u_.Host, cI u_.Port, .ro false 1 (u_.Path.map eStr), .str u_.Query, cB u_.Asks, .str u_.Fragment, cB u_.Points]]))), 1⟩ := by
 refine Sv.loop (I := fun k s => ∃ (out : Tx), ∃ (v11 : Int), r4_AddressText_l0 u_ K0_ k out v11 = some o ∧ s = ⟨(upd (upd (upd (upd (upd e0 1 (some (.c (.ref 0 8 0 0)))) 3 (some (S out))) 9 (some (.c (.ro false 1 (u_.Path.map eStr))))) 10 (some (I (u_.Path.length : Int)))) 11 (some (I v11))), (upd e0 0 (some (.cells 8 [[.str u_.Scheme, .str u_.Host, cI u_.Port, .ro false 1 (u_.Path.map eStr), .str u_.Query, cB u_.Asks, .str u_.Fragment, cB u_.Points]]))), 1⟩) (fun k s hI => ?_) ⟨out, v11, h, rfl⟩
 clear h
 clear v11 out
 obtain ⟨out, v11, h, rfl⟩ := hI
 cases k with
 | zero => cases h
 | succ k =>
 rw [r4_AddressText_l0] at h
 have hself : ∀ (out : Tx) (v11 : Int), (r4_AddressText_l0 u_ K0_ k) out v11 = some o → ∀ s, Weak 0 s ⟨(upd (upd (upd (upd (upd e0 1 (some (.c (.ref 0 8 0 0)))) 3 (some (S out))) 9 (some (.c (.ro false 1 (u_.Path.map eStr))))) 10 (some (I (u_.Path.length : Int)))) 11 (some (I v11))), (upd e0 0 (some (.cells 8 [[.str u_.Scheme, .str u_.Host, cI u_.Port, .ro false 1 (u_.Path.map eStr), .str u_.Query, cB u_.Asks, .str u_.Fragment, cB u_.Points]]))), 1⟩ → (AThen (fun s' => ∃ s'' k', Weak 0 s' s'' ∧ k' < k + 1 ∧ (fun k s => ∃ (out : Tx), ∃ (v11 : Int), r4_AddressText_l0 u_ K0_ k out v11 = some o ∧ s = ⟨(upd (upd (upd (upd (upd e0 1 (some (.c (.ref 0 8 0 0)))) 3 (some (S out))) 9 (some (.c (.ro false 1 (u_.Path.map eStr))))) 10 (some (I (u_.Path.length : Int)))) 11 (some (I v11))), (upd e0 0 (some (.cells 8 [[.str u_.Scheme, .str u_.Host, cI u_.Port, .ro false 1 (u_.Path.map eStr), .str u_.Query, cB u_.Asks, .str u_.Fragment, cB u_.Points]]))), 1⟩) k' s'') Q) .normal s := fun out v11 h s hw => ⟨_, k, hw, Nat.lt_succ_self k, out, v11, h, rfl⟩
 refine ssr <| un1 (v := (B (decide (v11 < (u_.Path.length : Int))))) rfl <| dnil <| Sv.seq ?_
 refine Sv.cond (b := decide (v11 < (u_.Path.length : Int))) rfl (fun hc1 => ?_) (fun hc1 => ?_)
 ·replace h := ifT hc1 h
  refine Sv.skip <| Sv.seq <| Sv.block <| ssr ?_
  obtain ⟨x_, hx1, h⟩ := bnd h
  refine un1 (v := (.c (.rop [.str x_]))) (s_iaddr (e := eStr) (xs := u_.Path) rfl rfl hx1) <| un1 (v := (S x_)) rfl <| un1 rfl <| dnil <| srg <| un1 rfl <| un1 rfl ?_
  obtain ⟨r_1, hr2, h⟩ := bnd h
  refine un <| ac_pure (r4_Encoded_ok hr2) rfl rfl rfl ?_
  obtain ⟨r_2, hx2, h⟩ := bnd h
  refine un1 (v := (S r_2)) (s_cat rfl rfl hx2) ?_
  obtain ⟨r_3, hx3, h⟩ := bnd h
  refine un1 (v := (S r_3)) (s_cat rfl rfl hx3) <| un1 rfl <| dnil <| srg <| un1 (v := (I (wi (v11 + 1)))) rfl <| un1 rfl <| dnil ?_
  exact hself r_3 (wi (v11 + 1)) h _ (wcn [0] rfl (.cf rfl rfl (.cf rfl rfl (.cf rfl rfl (.cf rfl rfl (.cons rfl (.c (.ref rfl (by decide))) .nil))))) (.box (by decide) rfl (blkAs_cells (.sm rfl (.sm rfl (.sm rfl (.sm rfl (.sm rfl (.sm rfl (.sm rfl (.sm rfl .nil))))))))) .nil))
 ·replace h := ifF hc1 h
  refine Sv.exit ?_
  exact hK0 out h _ (wcn [0] rfl (.cf rfl rfl (.cons rfl (.c (.ref rfl (by decide))) .nil)) (.box (by decide) rfl (blkAs_cells (.sm rfl (.sm rfl (.sm rfl (.sm rfl (.sm rfl (.sm rfl (.sm rfl (.sm rfl .nil))))))))) .nil))
noncomputable def r4_AddressText_j2 (out3 : Tx) : Option Tx :=
 some out3
theorem r4_AddressText_j2_ok {mL : Int} {out3 : Tx} {o : Tx} (h : r4_AddressText_j2 out3 = some o) :
  Sv Tryz.prog (GG mL) 0 a14_c2 (Ends a14.results 0 (r4_AddressText_post o)) ⟨(upd e0 3 (some (S out3))), e0, 0⟩ := by
 unfold r4_AddressText_j2 at h
 refine ssr <| un1 rfl <| un1 rfl <| dnil <| Sv.ret ?_
 replace h := Option.some.inj h
 subst h
 exact ⟨_, .refl _, _, rfl, ⟨upd e0 0 (some (S out3)), e0, 0⟩, (S out3), weak_canon [] rfl List.nodup_nil (Nat.le_refl _) nlz (.cf rfl rfl .nil) .nil, rfl, rfl, rfl, rfl⟩
noncomputable def r4_AddressText_j1 (u_ : TJUrl) (out2 : Tx) : Option Tx :=
 if u_.Points then
  (cat? [35] u_.Fragment).bind fun r_4 =>
  (cat? out2 r_4).bind fun r_5 =>
  r4_AddressText_j2 r_5
 else
  r4_AddressText_j2 out2
theorem r4_AddressText_j1_ok {mL : Int} {u_ : TJUrl} {out2 : Tx} {o : Tx} (h : r4_AddressText_j1 u_ out2 = some o) :
  Sv Tryz.prog (GG mL) 0 a14_c1 (Ends a14.results 0 (r4_AddressText_post o)) ⟨(upd (upd e0 1 (some (.c (.ref 0 8 0 0)))) 3 (some (S out2))), (upd e0 0 (some (.cells 8 [[.str u_.Scheme, .str u_.Host, cI u_.Port, .ro false 1 (u_.Path.map eStr), .str u_.Query, cB u_.Asks, .str u_.Fragment, cB u_.Points]]))), 1⟩ := by
 unfold r4_AddressText_j1 at h
 refine Sv.seq <| ssr <| un1 (v := (.c (.ref 0 8 0 7))) rfl <| un1 (v := (B u_.Points)) rfl <| dnil ?_
 refine Sv.cond (b := u_.Points) rfl (fun hc2 => ?_) (fun hc2 => ?_)
 ·replace h := ifT hc2 h
  refine srg <| un1 rfl <| un1 (v := (.c (.ref 0 8 0 6))) rfl <| un1 (v := (S u_.Fragment)) rfl ?_
  obtain ⟨r_4, hx4, h⟩ := bnd h
  refine un1 (v := (S r_4)) (s_cat rfl rfl hx4) ?_
  obtain ⟨r_5, hx5, h⟩ := bnd h
  refine un1 (v := (S r_5)) (s_cat rfl rfl hx5) <| un1 rfl <| dnil ?_
  exact Sv.weak (wcn [] rfl (.cf rfl rfl .nil) .nil) (r4_AddressText_j2_ok h)
 ·replace h := ifF hc2 h
  refine Sv.skip ?_
  exact Sv.weak (wcn [] rfl (.cf rfl rfl .nil) .nil) (r4_AddressText_j2_ok h)
/-- clerestory/clerestoryref4.AddressText -/
noncomputable def r4_AddressText (u_ : TJUrl) : Option Tx :=
 (r4_OriginOf u_).bind fun r_ =>
 lim fun kk => r4_AddressText_l0 u_ (fun (out1 : Tx) => 
   if u_.Asks then
    (cat? [63] u_.Query).bind fun r_6 =>
    (cat? out1 r_6).bind fun r_7 =>
    r4_AddressText_j1 u_ r_7
   else
    r4_AddressText_j1 u_ out1) kk r_ 0
theorem r4_AddressText_ok {mL : Int} {u_ : TJUrl} {r : Tx} (h : r4_AddressText u_ = some r) : CPure Tryz.prog (GG mL) 14 [(.agg [.str u_.Scheme, .str u_.Host, cI u_.Port, .ro false 1 (u_.Path.map eStr), .str u_.Query, cB u_.Asks, .str u_.Fragment, cB u_.Points])] (S r) := by
 refine acalls_of_sv hmix c14 (R := r4_AddressText_post r) ?_
 unfold r4_AddressText at h
 refine ssr <| un <| a2v (v := (.c (.ref 0 8 0 0))) (h' := upd _ 0 (some (.cells 8 [[.str u_.Scheme, .str u_.Host, cI u_.Port, .ro false 1 (u_.Path.map eStr), .str u_.Query, cB u_.Asks, .str u_.Fragment, cB u_.Points]]))) (n' := 1) rfl rfl (fun h => by cases h) <| un1 rfl <| dnil <| ssr <| un1 (v := (.agg [.str u_.Scheme, .str u_.Host, cI u_.Port, .ro false 1 (u_.Path.map eStr), .str u_.Query, cB u_.Asks, .str u_.Fragment, cB u_.Points])) rfl ?_
 obtain ⟨r_, hr1, h⟩ := bnd h
 refine un <| ac_pure (r4_OriginOf_ok hr1) rfl rfl rfl <| un1 rfl <| dnil <| Sv.seq <| ssr <| un1 (v := (.c (.ref 0 8 0 3))) rfl <| un1 (v := (.c (.ro false 1 (u_.Path.map eStr)))) rfl <| un1 (v := (I (u_.Path.length : Int))) (s_len (e := eStr) (xs := u_.Path) rfl) <| un1 rfl <| dnil <| Sv.block ?_
 obtain ⟨kk, h⟩ := lim_some h
 refine Sv.weak (wcn [0] rfl (.cf rfl rfl (.cf rfl rfl (.cf rfl rfl (.cf rfl rfl (.cons rfl (.c (.ref rfl (by decide))) .nil))))) (.box (by decide) rfl (blkAs_cells (.sm rfl (.sm rfl (.sm rfl (.sm rfl (.sm rfl (.sm rfl (.sm rfl (.sm rfl .nil))))))))) .nil)) (r4_AddressText_l0_ok h ?_ (fun s hs => hs))
 ·intro out1 h _ hw1
  refine Sv.weak hw1 <| Sv.seq <| ssr <| un1 (v := (.c (.ref 0 8 0 5))) rfl <| un1 (v := (B u_.Asks)) rfl <| dnil ?_
  refine Sv.cond (b := u_.Asks) rfl (fun hc3 => ?_) (fun hc3 => ?_)
  ·replace h := ifT hc3 h
   refine srg <| un1 rfl <| un1 (v := (.c (.ref 0 8 0 4))) rfl <| un1 (v := (S u_.Query)) rfl ?_
   obtain ⟨r_6, hx6, h⟩ := bnd h
   refine un1 (v := (S r_6)) (s_cat rfl rfl hx6) ?_
   obtain ⟨r_7, hx7, h⟩ := bnd h
   refine un1 (v := (S r_7)) (s_cat rfl rfl hx7) <| un1 rfl <| dnil ?_
   exact Sv.weak (wcn [0] rfl (.cf rfl rfl (.cons rfl (.c (.ref rfl (by decide))) .nil)) (.box (by decide) rfl (blkAs_cells (.sm rfl (.sm rfl (.sm rfl (.sm rfl (.sm rfl (.sm rfl (.sm rfl (.sm rfl .nil))))))))) .nil)) (r4_AddressText_j1_ok h)
  ·replace h := ifF hc3 h
   refine Sv.skip ?_
   exact Sv.weak (wcn [0] rfl (.cf rfl rfl (.cons rfl (.c (.ref rfl (by decide))) .nil)) (.box (by decide) rfl (blkAs_cells (.sm rfl (.sm rfl (.sm rfl (.sm rfl (.sm rfl (.sm rfl (.sm rfl (.sm rfl .nil))))))))) .nil)) (r4_AddressText_j1_ok h)
def a16_c1 : ACode := (.cond (.tmp 69) (.region [(oP 70 (.bslice 1 [(.str [])] 0 [])), (oP 71 (.faddr 3 (.tmp 6))), (oP 72 (.load false 1 (.tmp 71))), (oP 73 (.faddr 3 (.tmp 6))), (oP 74 (.load false 1 (.tmp 73))), (oP 75 (.len (.tmp 74))), ⟨(some 76), (.bin .sub (.tmp 75) (kI 1)), none⟩, (oP 77 (.slSl 1 (.tmp 72) none (some (.tmp 76)) none)), (oP 78 (.app 1 16 (.tmp 70) (.tmp 77))), (mV 79 13), (oP 80 (.app 1 16 (.tmp 78) (.tmp 79))), (mV 13 80)]) .skip)
def a16_c3 : ACode := (.seq (.region [(mV 81 11), ⟨(some 82), (.bin .neq (.tmp 81) (.const (.c (.str [])))), none⟩])
 (.cond (.tmp 82) (.region [(mV 83 13), (oP 84 (.call 35 [(.tmp 83)])), (oP 85 (.faddr 3 (.tmp 8))), ⟨none, (.store 1 (.tmp 85) (.tmp 84)), none⟩]) .skip))
def a16_c0 : ACode := (.seq (.region [(mV 52 11), ⟨(some 53), (.call 23 [(.tmp 52), (.const (.c (.str [47])))]), none⟩, (oP 54 (.call 34 [(.tmp 53)])), (mV 51 54), (oP 55 (.ext (.tmp 51) 0)), (oP 56 (.ext (.tmp 51) 1)), (mV 13 55), (mV 14 56)])
 (.seq (.seq (.region [(mV 57 12), (oP 58 (.un .not (.tmp 57))), (mV 59 58), ⟨(some 60), (.mov (.tmp 14)), (some (59, false))⟩, ⟨(some 61), (.un .not (.tmp 60)), (some (59, false))⟩, ⟨(some 62), (.pick (.tmp 59) (.const (.c (.val (.bool true)))) (.tmp 61)), none⟩])
 (.cond (.tmp 62) (.seq (.region [⟨(some 4), (.mov (.const (.c (.str [])))), none⟩, ⟨(some 5), (.mov (kI 3)), none⟩])
 .ret) .skip))
 (.seq (.seq (.region [(mV 63 11), ⟨(some 64), (.bin .neq (.tmp 63) (.const (.c (.str [])))), none⟩, (mV 65 64), ⟨(some 66), (.mov (.tmp 11)), (some (65, true))⟩, ⟨(some 67), (.call 28 [(.tmp 66), (.const (.c (.str [47])))]), (some (65, true))⟩, ⟨(some 68), (.un .not (.tmp 67)), (some (65, true))⟩, ⟨(some 69), (.pick (.tmp 65) (.tmp 68) (.const (.c (.val (.bool false))))), none⟩])
 a16_c1)
 a16_c3)))
def a16_c2 : ACode := (.seq (.seq (.region [(mV 105 7), ⟨(some 106), (.bin .neq (.tmp 105) (kI 0)), none⟩])
 (.cond (.tmp 106) (.seq (.region [(mV 107 7), ⟨(some 4), (.mov (.const (.c (.str [])))), none⟩, (mV 5 107)])
 .ret) .skip))
 (.seq (.region [(oP 108 (.load true 8 (.tmp 8))), (oP 109 (.call 14 [(.tmp 108)])), (mV 15 109)])
 (.seq (.seq (.region [(mV 110 15), (oP 111 (.lenS (.tmp 110))), ⟨(some 112), (.bin .gtr (.tmp 111) (kI 500)), none⟩])
 (.cond (.tmp 112) (.seq (.region [⟨(some 4), (.mov (.const (.c (.str [])))), none⟩, ⟨(some 5), (.mov (kI 2)), none⟩])
 .ret) .skip))
 (.seq (.region [(mV 113 15), (mV 4 113), ⟨(some 5), (.mov (kI 0)), none⟩])
 .ret))))
def a16 : AFunc := ⟨2, [(.tmp 4), (.tmp 5)], (.seq (.region [⟨(some 4), (.mov (.const (.c (.str [])))), none⟩, ⟨(some 5), (.mov (kI 0)), none⟩])
 (.seq (.region [(mV 17 0), (oP 18 (.call 8 [(.tmp 17)])), (mV 16 18), (oP 19 (.ext (.tmp 16) 0)), (oP 20 (.ext (.tmp 16) 1)), ⟨(some 6), (.box (.const (.agg [(.str []), (.str []), (.val (.int .i64 0)), (.ro true 1 []), (.str []), (.val (.bool false)), (.str []), (.val (.bool false))]))), none⟩, ⟨none, (.store 8 (.tmp 6) (.tmp 19)), none⟩, (mV 7 20)])
 (.seq (.seq (.region [(mV 21 7), ⟨(some 22), (.bin .neq (.tmp 21) (kI 0)), none⟩])
 (.cond (.tmp 22) (.seq (.region [(mV 23 7), ⟨(some 4), (.mov (.const (.c (.str [])))), none⟩, (mV 5 23)])
 .ret) .skip))
 (.seq (.seq (.region [(mV 24 1), (oP 25 (.lenS (.tmp 24))), ⟨(some 26), (.bin .gtr (.tmp 25) (kI 500)), none⟩])
 (.cond (.tmp 26) (.seq (.region [⟨(some 4), (.mov (.const (.c (.str [])))), none⟩, ⟨(some 5), (.mov (kI 2)), none⟩])
 .ret) .skip))
 (.seq (.region [(oP 27 (.load true 8 (.tmp 6))), ⟨(some 8), (.box (.const (.agg [(.str []), (.str []), (.val (.int .i64 0)), (.ro true 1 []), (.str []), (.val (.bool false)), (.str []), (.val (.bool false))]))), none⟩, ⟨none, (.store 8 (.tmp 8) (.tmp 27)), none⟩])
 (.seq (.region [(mV 29 1), (oP 30 (.call 27 [(.tmp 29)])), (mV 28 30), (oP 31 (.ext (.tmp 28) 0)), (oP 32 (.ext (.tmp 28) 1)), (mV 9 31), (mV 10 32)])
 (.seq (.block 0 (.seq (.region [(mV 87 10), (mV 86 87)])
 (.cond (.tmp 86) (.region [(mV 89 1), (oP 90 (.call 8 [(.tmp 89)])), (mV 88 90), (oP 91 (.ext (.tmp 88) 0)), (oP 92 (.ext (.tmp 88) 1)), ⟨none, (.store 8 (.tmp 8) (.tmp 91)), none⟩, (mV 7 92)]) (.seq (.region [(mV 94 1), ⟨(some 95), (.call 28 [(.tmp 94), (.const (.c (.str [47, 47])))]), none⟩, (mV 93 95)])
 (.cond (.tmp 93) (.region [(oP 97 (.faddr 0 (.tmp 6))), (oP 98 (.load false 1 (.tmp 97))), ⟨(some 99), (.bin .add (.tmp 98) (.const (.c (.str [58])))), none⟩, (mV 100 1), (oP 101 (.bin .add (.tmp 99) (.tmp 100))), (oP 102 (.call 8 [(.tmp 101)])), (mV 96 102), (oP 103 (.ext (.tmp 96) 0)), (oP 104 (.ext (.tmp 96) 1)), ⟨none, (.store 8 (.tmp 8) (.tmp 103)), none⟩, (mV 7 104)]) (.seq (.region [(mV 34 1), (oP 35 (.call 33 [(.tmp 8), (.tmp 34)])), (mV 33 35), (oP 36 (.ext (.tmp 33) 0)), (oP 37 (.ext (.tmp 33) 1)), (mV 11 36), (mV 12 37)])
 (.seq (.seq (.region [(mV 38 11), ⟨(some 39), (.bin .eql (.tmp 38) (.const (.c (.str [])))), none⟩, (mV 40 39), ⟨(some 41), (.faddr 5 (.tmp 8)), (some (40, true))⟩, ⟨(some 42), (.load false 1 (.tmp 41)), (some (40, true))⟩, ⟨(some 43), (.un .not (.tmp 42)), (some (40, true))⟩, ⟨(some 44), (.pick (.tmp 40) (.tmp 43) (.const (.c (.val (.bool false))))), none⟩])
 (.cond (.tmp 44) (.drawn (.alt [((oP 45 (.faddr 4 (.tmp 6))), (0, 0)), ((oP 46 (.load false 1 (.tmp 45))), (0, 1)), ((oP 47 (.faddr 5 (.tmp 6))), (0, 2)), ((oP 49 (.faddr 4 (.tmp 8))), (0, 4))] (.fin [((oP 48 (.load false 1 (.tmp 47))), (1, 3)), (⟨none, (.store 1 (.tmp 49) (.tmp 46)), none⟩, (2, 5)), ((oP 50 (.faddr 5 (.tmp 8))), (0, 6)), (⟨none, (.store 1 (.tmp 50) (.tmp 48)), none⟩, (2, 7))]) (.fin [(⟨none, (.store 1 (.tmp 49) (.tmp 46)), none⟩, (2, 5)), ((oP 48 (.load false 1 (.tmp 47))), (1, 3)), ((oP 50 (.faddr 5 (.tmp 8))), (0, 6)), (⟨none, (.store 1 (.tmp 50) (.tmp 48)), none⟩, (2, 7))]))) .skip))
 a16_c0)))))))
 a16_c2)))))))⟩
set_option maxRecDepth 100000 in
theorem c16 : compFunc Tryz.prog 16 = some a16 := by kernel_rfl
def r4_Resolved_post (r : (Tx × Int)) : AV → Heap → Nat → Prop := fun v h' n' => v = (.tup [(S r.1), (I r.2)]) ∧ (h' = e0) ∧ n' = 0
noncomputable def r4_Resolved_j10 (e_ : Int) (u0 : Tx) (u1 : Tx) (u2 : Int) (u3 : TT) (u4 : Tx) (u5 : Bool) (u6 : Tx) (u7 : Bool) : Option (Tx × Int) :=
 if (!decide (e_ = 0)) then
  some ([], e_)
 else
  (r4_AddressText (⟨u0, u1, u2, u3, u4, u5, u6, u7⟩ : TJUrl)).bind fun r_2 =>
  if decide (500 < (r_2.length : Int)) then
   some ([], 2)
  else
   some (r_2, 0)
theorem r4_Resolved_j10_ok {mL : Int} {e_ : Int} {u0 : Tx} {u1 : Tx} {u2 : Int} {u3 : TT} {u4 : Tx} {u5 : Bool} {u6 : Tx} {u7 : Bool} {o : (Tx × Int)} (h : r4_Resolved_j10 e_ u0 u1 u2 u3 u4 u5 u6 u7 = some o) :
  Sv Tryz.prog (GG mL) 0 a16_c2 (Ends a16.results 0 (r4_Resolved_post o)) ⟨(upd (upd e0 7 (some (I e_))) 8 (some (.c (.ref 0 8 0 0)))), (upd e0 0 (some (.cells 8 [[.str u0, .str u1, cI u2, .ro false 1 (u3.map eStr), .str u4, cB u5, .str u6, cB u7]]))), 1⟩ := by
 unfold r4_Resolved_j10 at h
 refine Sv.seq <| ssr <| un1 rfl <| un1 (v := (B (!decide (e_ = 0)))) rfl <| dnil ?_
 refine Sv.cond (b := (!decide (e_ = 0))) rfl (fun hc3 => ?_) (fun hc3 => ?_)
 ·replace h := ifT hc3 h
  refine ssr <| un1 rfl <| un1 rfl <| un1 rfl <| dnil <| Sv.ret ?_
  replace h := Option.some.inj h
  subst h
  exact ⟨_, .refl _, _, rfl, ⟨upd e0 0 (some (.tup [(S []), (I e_)])), e0, 0⟩, (.tup [(S []), (I e_)]), weak_canon [] rfl List.nodup_nil (Nat.le_refl _) nlz (.cons rfl (avAs_tup (.cons (avAs_free rfl) (.cons (avAs_free rfl) .nil))) .nil) .nil, rfl, rfl, rfl, rfl⟩
 ·replace h := ifF hc3 h
  refine Sv.skip <| ssr <| un1 (v := (.agg [.str u0, .str u1, cI u2, .ro false 1 (u3.map eStr), .str u4, cB u5, .str u6, cB u7])) rfl ?_
  obtain ⟨r_2, hr3, h⟩ := bnd h
  refine un <| ac_pure (r4_AddressText_ok hr3) rfl rfl rfl <| un1 rfl <| dnil <| Sv.seq <| ssr <| un1 rfl <| un1 (v := (I (r_2.length : Int))) rfl <| un1 (v := (B (decide (500 < (r_2.length : Int))))) rfl <| dnil ?_
  refine Sv.cond (b := decide (500 < (r_2.length : Int))) rfl (fun hc4 => ?_) (fun hc4 => ?_)
  ·replace h := ifT hc4 h
   refine ssr <| un1 rfl <| un1 rfl <| dnil <| Sv.ret ?_
   replace h := Option.some.inj h
   subst h
   exact ⟨_, .refl _, _, rfl, ⟨upd e0 0 (some (.tup [(S []), (I 2)])), e0, 0⟩, (.tup [(S []), (I 2)]), weak_canon [] rfl List.nodup_nil (Nat.le_refl _) nlz (.cons rfl (avAs_tup (.cons (avAs_free rfl) (.cons (avAs_free rfl) .nil))) .nil) .nil, rfl, rfl, rfl, rfl⟩
  ·replace h := ifF hc4 h
   refine Sv.skip <| ssr <| un1 rfl <| un1 rfl <| un1 rfl <| dnil <| Sv.ret ?_
   replace h := Option.some.inj h
   subst h
   exact ⟨_, .refl _, _, rfl, ⟨upd e0 0 (some (.tup [(S r_2), (I 0)])), e0, 0⟩, (.tup [(S r_2), (I 0)]), weak_canon [] rfl List.nodup_nil (Nat.le_refl _) nlz (.cons rfl (avAs_tup (.cons (avAs_free rfl) (.cons (avAs_free rfl) .nil))) .nil) .nil, rfl, rfl, rfl, rfl⟩
abbrev r4_Resolved_q0 (mL : Int) (o : (Tx × Int)) : AExit → St → Prop := AThen (Sv Tryz.prog (GG mL) 0 a16_c2 (Ends a16.results 0 (r4_Resolved_post o))) (Ends a16.results 0 (r4_Resolved_post o))
abbrev r4_Resolved_q1 (mL : Int) (o : (Tx × Int)) : AExit → St → Prop := ABlock 0 (r4_Resolved_q0 mL o)
noncomputable def r4_Resolved_j13 (r_8 : (Tx × Bool × TJUrl)) (r_ : (TJUrl × Int)) (u41 : Tx) (u51 : Bool) (l_ : TT) : Option (Tx × Int) :=
 if (!decide (r_8.1 = [])) then
  (r4_Tidied l_).bind fun r_11 =>
  r4_Resolved_j10 r_.2 r_8.2.2.Scheme r_8.2.2.Host r_8.2.2.Port r_11 u41 u51 r_8.2.2.Fragment r_8.2.2.Points
 else
  r4_Resolved_j10 r_.2 r_8.2.2.Scheme r_8.2.2.Host r_8.2.2.Port r_8.2.2.Path u41 u51 r_8.2.2.Fragment r_8.2.2.Points
theorem r4_Resolved_j13_ok {mL : Int} {r_8 : (Tx × Bool × TJUrl)} {r_ : (TJUrl × Int)} {u41 : Tx} {u51 : Bool} {l_ : TT} {zl : Bool} (hzl : zl = true → l_ = []) {o : (Tx × Int)} (h : r4_Resolved_j13 r_8 r_ u41 u51 l_ = some o) :
  Sv Tryz.prog (GG mL) 0 a16_c3 (r4_Resolved_q1 mL o) ⟨(upd (upd (upd (upd e0 7 (some (I r_.2))) 8 (some (.c (.ref 0 8 0 0)))) 11 (some (S r_8.1))) 13 (some (lstV zl 1 1 l_.length))), (upd (upd e0 0 (some (.cells 8 [[.str r_8.2.2.Scheme, .str r_8.2.2.Host, cI r_8.2.2.Port, .ro false 1 (r_8.2.2.Path.map eStr), .str u41, cB u51, .str r_8.2.2.Fragment, cB r_8.2.2.Points]]))) 1 (lstB zl 1 (l_.map eStr))), 2⟩ := by
 unfold r4_Resolved_j13 at h
 refine ssr <| un1 rfl <| un1 (v := (B (!decide (r_8.1 = [])))) rfl <| dnil ?_
 refine Sv.cond (b := (!decide (r_8.1 = []))) rfl (fun hc9 => ?_) (fun hc9 => ?_)
 ·replace h := ifT hc9 h
  refine srg <| un1 rfl ?_
  obtain ⟨r_11, hr10, h⟩ := bnd h
  refine un <| ac_gen (bs := []) («as» := [(.c (.ro false 1 (l_.map eStr)))]) (h2 := (upd _ 1 none)) (h1 := e0) (r4_Tidied_ok hr10) rfl (.cons (.c (lstC_ro (es := List.map eStr l_) rfl (List.length_map eStr).symm (map_nil_of hzl) (gone rfl) (fr_map fun _ => rfl))) .nil) (hsub_none (hsub_refl _)) (.nil _) (fun _ => rfl) (by decide) (by decide) (.cons (avAs_free rfl) .nil) .nil ?_
  rintro _ _ _ hn ⟨z_1, hz_1, rfl, rfl, rfl⟩
  refine ⟨.inr ⟨(by cases z_1 <;> rfl), (.row (cl_map fun _ => rfl) .nil)⟩, (upd (rem [] _) 2 (lstB z_1 1 (r_11.map eStr))), fun hbd => (m3_cons (m3_row rfl (fr_map fun _ => rfl)) (m3_rem (in_nil _) (.cons (by decide) .nil) hbd)), (lstV z_1 2 1 r_11.length), 3, (by cases z_1 <;> rfl), rfl, ?_⟩
  refine un1 (v := (.c (.ref 0 8 0 3))) rfl <| un <| a2n (h' := upd _ 0 (some (.cells 8 [[.str r_8.2.2.Scheme, .str r_8.2.2.Host, cI r_8.2.2.Port, lstC z_1 2 1 r_11.length, .str u41, cB u51, .str r_8.2.2.Fragment, cB r_8.2.2.Points]]))) (n' := 3) rfl rfl (fun h => by cases h) <| dnil ?_
  exact Sv.weak (wcn [0] rfl (.cons rfl (.c (.ref rfl (by decide))) (.cf rfl rfl .nil)) (.box (by decide) rfl (blkAs_cells (.sm rfl (.sm rfl (.sm rfl (.cons (lstC_ro (es := List.map eStr r_11) rfl (List.length_map eStr).symm (map_nil_of hz_1) (fun b x hx => not_in (bs := [0]) rfl b (((.cons (by decide) .nil) : HLt _ _) b x hx)) (fr_map fun _ => rfl)) (.sm rfl (.sm rfl (.sm rfl (.sm rfl .nil))))))))) .nil)) (r4_Resolved_j10_ok h)
 ·replace h := ifF hc9 h
  refine Sv.skip ?_
  exact Sv.weak (wcn [0] rfl (.cons rfl (.c (.ref rfl (by decide))) (.cf rfl rfl .nil)) (.box (by decide) rfl (blkAs_cells (.sm rfl (.sm rfl (.sm rfl (.sm rfl (.sm rfl (.sm rfl (.sm rfl (.sm rfl .nil))))))))) .nil)) (r4_Resolved_j10_ok h)
abbrev r4_Resolved_q2 (mL : Int) (o : (Tx × Int)) : AExit → St → Prop := AThen (Sv Tryz.prog (GG mL) 0 a16_c3 (r4_Resolved_q1 mL o)) (r4_Resolved_q1 mL o)
noncomputable def r4_Resolved_j14 (r_ : (TJUrl × Int)) (r_8 : (Tx × Bool × TJUrl)) (u41 : Tx) (u51 : Bool) (l_1 : TT) (v69 : Bool) : Option (Tx × Int) :=
 if v69 then
  (sub? r_.1.Path 0 (wi ((r_.1.Path.length : Int) - 1))).bind fun r_12 =>
  (app? 16 ([] : TT) r_12).bind fun r_13 =>
  (app? 16 r_13 l_1).bind fun r_14 =>
  r4_Resolved_j13 r_8 r_ u41 u51 r_14
 else
  r4_Resolved_j13 r_8 r_ u41 u51 l_1
theorem r4_Resolved_j14_ok {mL : Int} {r_ : (TJUrl × Int)} {r_8 : (Tx × Bool × TJUrl)} {u41 : Tx} {u51 : Bool} {l_1 : TT} {v69 : Bool} {zl_1 : Bool} (hzl_1 : zl_1 = true → l_1 = []) {o : (Tx × Int)} (h : r4_Resolved_j14 r_ r_8 u41 u51 l_1 v69 = some o) :
  Sv Tryz.prog (GG mL) 0 a16_c1 (r4_Resolved_q2 mL o) ⟨(upd (upd (upd (upd (upd (upd e0 6 (some (.c (.ref 0 8 0 0)))) 7 (some (I r_.2))) 8 (some (.c (.ref 1 8 0 0)))) 11 (some (S r_8.1))) 13 (some (lstV zl_1 2 1 l_1.length))) 69 (some (B v69))), (upd (upd (upd e0 0 (some (.cells 8 [[.str r_.1.Scheme, .str r_.1.Host, cI r_.1.Port, .ro false 1 (r_.1.Path.map eStr), .str r_.1.Query, cB r_.1.Asks, .str r_.1.Fragment, cB r_.1.Points]]))) 1 (some (.cells 8 [[.str r_8.2.2.Scheme, .str r_8.2.2.Host, cI r_8.2.2.Port, .ro false 1 (r_8.2.2.Path.map eStr), .str u41, cB u51, .str r_8.2.2.Fragment, cB r_8.2.2.Points]]))) 2 (lstB zl_1 1 (l_1.map eStr))), 3⟩ := by
 unfold r4_Resolved_j14 at h
 refine Sv.cond (b := v69) rfl (fun hc10 => ?_) (fun hc10 => ?_)
 ·replace h := ifT hc10 h
  refine srg <| un <| a2v (v := (lstV false 3 1 ([] : TT).length)) (h' := upd _ 3 (lstB false 1 (([] : TT).map eStr))) (n' := 4) rfl rfl (fun h => by cases h) <| un1 (v := (.c (.ref 0 8 0 3))) rfl <| un1 (v := (.c (.ro false 1 (r_.1.Path.map eStr)))) rfl <| un1 (v := (.c (.ref 0 8 0 3))) rfl <| un1 (v := (.c (.ro false 1 (r_.1.Path.map eStr)))) rfl <| un1 (v := (I (r_.1.Path.length : Int))) (s_len (e := eStr) (xs := r_.1.Path) rfl) <| un1 (v := (I (wi ((r_.1.Path.length : Int) - 1)))) rfl ?_
  obtain ⟨r_12, hx3, h⟩ := bnd h
  refine un1 (v := (.c (.ro false 1 (r_12.map eStr)))) (s_slSl (e := eStr) rfl rfl rfl hx3) ?_
  obtain ⟨r_13, hr11, h⟩ := bnd h
  have hz1 : (false && r_12.isEmpty) = true → r_13 = [] := app_nil (z := false) (ys := r_12) (fun h => by cases h) hr11
  replace hz1 : false = true → r_13 = [] := hz1
  refine un <| a2v rfl (s_app (xs := ([] : TT)) (ys := r_12) (e := eStr) (z := false) (b := 3) rfl rfl (fun h => by cases h) rfl rfl (slc_ro) hr11) (fun h => by cases h) <| un1 rfl ?_
  obtain ⟨r_14, hr12, h⟩ := bnd h
  have hz2 : (false && l_1.isEmpty) = true → r_14 = [] := app_nil (z := false) (ys := l_1) hz1 hr12
  replace hz2 : false = true → r_14 = [] := hz2
  refine un <| a2v rfl (s_app (xs := r_13) (ys := l_1) (e := eStr) (z := false) (b := 4) rfl rfl hz1 rfl rfl (slc_lst rfl (List.length_map _).symm (map_nil_of hzl_1)) hr12) (fun h => by cases h) <| un1 rfl <| dnil ?_
  exact Sv.weak (wcn [1, 5] rfl (.cons rfl (.c (lstC_ren rfl (by decide))) (.cf rfl rfl (.cons rfl (.c (.ref rfl (by decide))) (.cf rfl rfl .nil)))) (.row (by decide) rfl (fr_map fun _ => rfl) (.box (by decide) rfl (blkAs_cells (.sm rfl (.sm rfl (.sm rfl (.sm rfl (.sm rfl (.sm rfl (.sm rfl (.sm rfl .nil))))))))) .nil))) (r4_Resolved_j13_ok hz2 h)
 ·replace h := ifF hc10 h
  refine Sv.skip ?_
  exact Sv.weak (wcn [1, 2] rfl (.cons rfl (.c (lstC_ren rfl (by decide))) (.cf rfl rfl (.cons rfl (.c (.ref rfl (by decide))) (.cf rfl rfl .nil)))) (.row (by decide) rfl (fr_map fun _ => rfl) (.box (by decide) rfl (blkAs_cells (.sm rfl (.sm rfl (.sm rfl (.sm rfl (.sm rfl (.sm rfl (.sm rfl (.sm rfl .nil))))))))) .nil))) (r4_Resolved_j13_ok hzl_1 h)
noncomputable def r4_Resolved_j11 (r_8 : (Tx × Bool × TJUrl)) (r_ : (TJUrl × Int)) (u41 : Tx) (u51 : Bool) : Option (Tx × Int) :=
 (strings_TrimPrefix r_8.1 [47]).bind fun r_9 =>
 (r4_segmentsOf r_9).bind fun r_10 =>
 if ((!r_8.2.1) || (!r_10.2)) then
  some ([], 3)
 else
  if (!decide (r_8.1 = [])) then
   (strings_HasPrefix r_8.1 [47]).bind fun r_15 =>
   r4_Resolved_j14 r_ r_8 u41 u51 r_10.1 (!r_15)
  else
   r4_Resolved_j14 r_ r_8 u41 u51 r_10.1 false
theorem r4_Resolved_j11_ok {mL : Int} {r_8 : (Tx × Bool × TJUrl)} {r_ : (TJUrl × Int)} {u41 : Tx} {u51 : Bool} {o : (Tx × Int)} (h : r4_Resolved_j11 r_8 r_ u41 u51 = some o) :
  Sv Tryz.prog (GG mL) 0 a16_c0 (r4_Resolved_q1 mL o) ⟨(upd (upd (upd (upd (upd e0 6 (some (.c (.ref 0 8 0 0)))) 7 (some (I r_.2))) 8 (some (.c (.ref 1 8 0 0)))) 11 (some (S r_8.1))) 12 (some (B r_8.2.1))), (upd (upd e0 0 (some (.cells 8 [[.str r_.1.Scheme, .str r_.1.Host, cI r_.1.Port, .ro false 1 (r_.1.Path.map eStr), .str r_.1.Query, cB r_.1.Asks, .str r_.1.Fragment, cB r_.1.Points]]))) 1 (some (.cells 8 [[.str r_8.2.2.Scheme, .str r_8.2.2.Host, cI r_8.2.2.Port, .ro false 1 (r_8.2.2.Path.map eStr), .str u41, cB u51, .str r_8.2.2.Fragment, cB r_8.2.2.Points]]))), 2⟩ := by
 unfold r4_Resolved_j11 at h
 refine ssr <| un1 rfl ?_
 obtain ⟨r_9, hr8, h⟩ := bnd h
 refine un <| ac_pure (strings_TrimPrefix_ok hr8) rfl rfl rfl ?_
 obtain ⟨r_10, hr9, h⟩ := bnd h
 refine un <| ac_gen (bs := []) («as» := [(S r_9)]) (h2 := _) (h1 := e0) (r4_segmentsOf_ok hr9) rfl (.cons (avAs_free rfl) .nil) (hsub_refl _) (.nil _) (fun _ => rfl) (by decide) (by decide) (.cons (avAs_free rfl) .nil) .nil ?_
 rintro _ _ _ hn ⟨z_, hz_, rfl, rfl, rfl⟩
 refine ⟨.inl rfl, (upd (rem [] _) 2 (lstB z_ 1 (r_10.1.map eStr))), fun hbd => (m3_cons (m3_row rfl (fr_map fun _ => rfl)) (m3_rem (in_nil _) (.cons (by decide) .nil) hbd)), (.tup [(lstV z_ 2 1 r_10.1.length), (B r_10.2)]), 3, (by cases z_ <;> rfl), rfl, ?_⟩
 refine un1 rfl <| un1 (v := (lstV z_ 2 1 r_10.1.length)) rfl <| un1 (v := (B r_10.2)) rfl <| un1 rfl <| un1 rfl <| dnil <| Sv.seq <| ssr <| un1 rfl <| un1 (v := (B (!r_8.2.1))) rfl <| un1 rfl ?_
 refine gjoin 3 (d := 62) (v := (B ((!r_8.2.1) || (!r_10.2)))) (fun X hX => ?_) ?_
 ·refine split2 (fun hc7 => ?_) (fun hc7 => ?_)
  ·refine gs rfl rfl <| gs rfl rfl <| un1 (v := (B true)) rfl <| dnil ?_
   exact hX _ (.putEq (by rw [hc7]; rfl) (.skip _ _ (.skip _ _ (.putEq (by rw [hc7]) (.refl _)) rfl) rfl))
  ·refine gt rfl <| a1 rfl <| gt rfl <| a1 (v := (B (!r_10.2))) rfl <| un1 (v := (B (!r_10.2))) rfl <| dnil ?_
   exact hX _ (.putEq (by rw [hc7]; rfl) (.skip _ _ (.skip _ _ (.putEq (by rw [hc7]) (.refl _)) rfl) rfl))
 refine dnil ?_
 refine Sv.cond (b := ((!r_8.2.1) || (!r_10.2))) rfl (fun hc8 => ?_) (fun hc8 => ?_)
 ·replace h := ifT hc8 h
  refine ssr <| un1 rfl <| un1 rfl <| dnil <| Sv.ret ?_
  replace h := Option.some.inj h
  subst h
  exact ⟨_, .refl _, _, rfl, ⟨upd e0 0 (some (.tup [(S []), (I 3)])), e0, 0⟩, (.tup [(S []), (I 3)]), weak_canon [] rfl List.nodup_nil (Nat.le_refl _) nlz (.cons rfl (avAs_tup (.cons (avAs_free rfl) (.cons (avAs_free rfl) .nil))) .nil) .nil, rfl, rfl, rfl, rfl⟩
 ·replace h := ifF hc8 h
  refine Sv.skip <| Sv.seq <| ssr <| un1 rfl <| un1 (v := (B (!decide (r_8.1 = [])))) rfl <| un1 rfl ?_
  refine split2 (fun hc11 => ?_) (fun hc11 => ?_)
  ·replace h := ifT hc11 h
   refine gt rfl <| a1 rfl ?_
   obtain ⟨r_15, hr13, h⟩ := bnd h
   refine gt rfl <| ac_pure (strings_HasPrefix_ok hr13) rfl rfl rfl <| gt rfl <| a1 (v := (B (!r_15))) rfl <| un1 (v := (B (!r_15))) rfl <| dnil ?_
   exact Sv.weak (wcn [0, 1, 2] rfl (.cf rfl rfl (.cons rfl (.c (lstC_ren rfl (by decide))) (.cf rfl rfl (.cons rfl (.c (.ref rfl (by decide))) (.cf rfl rfl (.cons rfl (.c (.ref rfl (by decide))) .nil)))))) (.row (by decide) rfl (fr_map fun _ => rfl) (.box (by decide) rfl (blkAs_cells (.sm rfl (.sm rfl (.sm rfl (.sm rfl (.sm rfl (.sm rfl (.sm rfl (.sm rfl .nil))))))))) (.box (by decide) rfl (blkAs_cells (.sm rfl (.sm rfl (.sm rfl (.sm rfl (.sm rfl (.sm rfl (.sm rfl (.sm rfl .nil))))))))) .nil)))) (r4_Resolved_j14_ok hz_ h)
  ·replace h := ifF hc11 h
   refine gs rfl rfl <| gs rfl rfl <| gs rfl rfl <| un1 (v := (B false)) rfl <| dnil ?_
   exact Sv.weak (wcn [0, 1, 2] rfl (.cf rfl rfl (.cons rfl (.c (lstC_ren rfl (by decide))) (.cf rfl rfl (.cons rfl (.c (.ref rfl (by decide))) (.cf rfl rfl (.cons rfl (.c (.ref rfl (by decide))) .nil)))))) (.row (by decide) rfl (fr_map fun _ => rfl) (.box (by decide) rfl (blkAs_cells (.sm rfl (.sm rfl (.sm rfl (.sm rfl (.sm rfl (.sm rfl (.sm rfl (.sm rfl .nil))))))))) (.box (by decide) rfl (blkAs_cells (.sm rfl (.sm rfl (.sm rfl (.sm rfl (.sm rfl (.sm rfl (.sm rfl (.sm rfl .nil))))))))) .nil)))) (r4_Resolved_j14_ok hz_ h)
/-- clerestory/clerestoryref4.Resolved -/
noncomputable def r4_Resolved (base : Tx) (ref : Tx) : Option (Tx × Int) :=
 (r4_Addressed base).bind fun r_ =>
 if (!decide (r_.2 = 0)) then
  some ([], r_.2)
 else
  if decide (500 < (ref.length : Int)) then
   some ([], 2)
  else
   (r4_SchemeOf ref).bind fun r_1 =>
   if r_1.2 then
    (r4_Addressed ref).bind fun r_3 =>
    r4_Resolved_j10 r_3.2 r_3.1.Scheme r_3.1.Host r_3.1.Port r_3.1.Path r_3.1.Query r_3.1.Asks r_3.1.Fragment r_3.1.Points
   else
    (strings_HasPrefix ref [47, 47]).bind fun r_4 =>
    if r_4 then
     (cat? r_.1.Scheme [58]).bind fun r_5 =>
     (cat? r_5 ref).bind fun r_6 =>
     (r4_Addressed r_6).bind fun r_7 =>
     r4_Resolved_j10 r_7.2 r_7.1.Scheme r_7.1.Host r_7.1.Port r_7.1.Path r_7.1.Query r_7.1.Asks r_7.1.Fragment r_7.1.Points
    else
     (r4_TailOf r_.1 ref).bind fun r_8 =>
     if ((decide (r_8.1 = [])) && (!r_8.2.2.Asks)) then
      r4_Resolved_j11 r_8 r_ r_.1.Query r_.1.Asks
     else
      r4_Resolved_j11 r_8 r_ r_8.2.2.Query r_8.2.2.Asks
theorem r4_Resolved_ok {mL : Int} {base : Tx} {ref : Tx} {r : (Tx × Int)} (h : r4_Resolved base ref = some r) : CPure Tryz.prog (GG mL) 16 [(S base), (S ref)] (.tup [(S r.1), (I r.2)]) := by
 refine acalls_of_sv hmix c16 (R := r4_Resolved_post r) ?_
 unfold r4_Resolved at h
 refine ssr <| un1 rfl <| un1 rfl <| dnil <| ssr <| un1 rfl ?_
 obtain ⟨r_, hr1, h⟩ := bnd h
 refine un <| ac_pure (r4_Addressed_ok hr1) rfl rfl rfl <| un1 rfl <| un1 (v := (.agg [.str r_.1.Scheme, .str r_.1.Host, cI r_.1.Port, .ro false 1 (r_.1.Path.map eStr), .str r_.1.Query, cB r_.1.Asks, .str r_.1.Fragment, cB r_.1.Points])) rfl <| un1 (v := (I r_.2)) rfl <| un <| a2v (v := (.c (.ref 0 8 0 0))) (h' := upd _ 0 (some (.cells 8 [[.str [], .str [], cI 0, .ro true 1 [], .str [], cB false, .str [], cB false]]))) (n' := 1) rfl rfl (fun h => by cases h) <| un <| a2n (h' := upd _ 0 (some (.cells 8 [[.str r_.1.Scheme, .str r_.1.Host, cI r_.1.Port, .ro false 1 (r_.1.Path.map eStr), .str r_.1.Query, cB r_.1.Asks, .str r_.1.Fragment, cB r_.1.Points]]))) (n' := 1) rfl rfl (fun h => by cases h) <| un1 rfl <| dnil <| Sv.seq <| ssr <| un1 rfl <| un1 (v := (B (!decide (r_.2 = 0)))) rfl <| dnil ?_
 refine Sv.cond (b := (!decide (r_.2 = 0))) rfl (fun hc1 => ?_) (fun hc1 => ?_)
 ·replace h := ifT hc1 h
  refine ssr <| un1 rfl <| un1 rfl <| un1 rfl <| dnil <| Sv.ret ?_
  replace h := Option.some.inj h
  subst h
  exact ⟨_, .refl _, _, rfl, ⟨upd e0 0 (some (.tup [(S []), (I r_.2)])), e0, 0⟩, (.tup [(S []), (I r_.2)]), weak_canon [] rfl List.nodup_nil (Nat.le_refl _) nlz (.cons rfl (avAs_tup (.cons (avAs_free rfl) (.cons (avAs_free rfl) .nil))) .nil) .nil, rfl, rfl, rfl, rfl⟩
 ·replace h := ifF hc1 h
  refine Sv.skip <| Sv.seq <| ssr <| un1 rfl <| un1 (v := (I (ref.length : Int))) rfl <| un1 (v := (B (decide (500 < (ref.length : Int))))) rfl <| dnil ?_
  refine Sv.cond (b := decide (500 < (ref.length : Int))) rfl (fun hc2 => ?_) (fun hc2 => ?_)
  ·replace h := ifT hc2 h
   refine ssr <| un1 rfl <| un1 rfl <| dnil <| Sv.ret ?_
   replace h := Option.some.inj h
   subst h
   exact ⟨_, .refl _, _, rfl, ⟨upd e0 0 (some (.tup [(S []), (I 2)])), e0, 0⟩, (.tup [(S []), (I 2)]), weak_canon [] rfl List.nodup_nil (Nat.le_refl _) nlz (.cons rfl (avAs_tup (.cons (avAs_free rfl) (.cons (avAs_free rfl) .nil))) .nil) .nil, rfl, rfl, rfl, rfl⟩
  ·replace h := ifF hc2 h
   refine Sv.skip <| ssr <| un1 (v := (.agg [.str r_.1.Scheme, .str r_.1.Host, cI r_.1.Port, .ro false 1 (r_.1.Path.map eStr), .str r_.1.Query, cB r_.1.Asks, .str r_.1.Fragment, cB r_.1.Points])) rfl <| un <| a2v (v := (.c (.ref 1 8 0 0))) (h' := upd _ 1 (some (.cells 8 [[.str [], .str [], cI 0, .ro true 1 [], .str [], cB false, .str [], cB false]]))) (n' := 2) rfl rfl (fun h => by cases h) <| un <| a2n (h' := upd _ 1 (some (.cells 8 [[.str r_.1.Scheme, .str r_.1.Host, cI r_.1.Port, .ro false 1 (r_.1.Path.map eStr), .str r_.1.Query, cB r_.1.Asks, .str r_.1.Fragment, cB r_.1.Points]]))) (n' := 2) rfl rfl (fun h => by cases h) <| dnil <| ssr <| un1 rfl ?_
   obtain ⟨r_1, hr2, h⟩ := bnd h
   refine un <| ac_pure (r4_SchemeOf_ok hr2) rfl rfl rfl <| un1 rfl <| un1 (v := (S r_1.1)) rfl <| un1 (v := (B r_1.2)) rfl <| un1 rfl <| un1 rfl <| dnil <| Sv.seq <| Sv.block <| ssr <| un1 rfl <| un1 rfl <| dnil ?_
   refine Sv.cond (b := r_1.2) rfl (fun hc5 => ?_) (fun hc5 => ?_)
   ·replace h := ifT hc5 h
    refine srg <| un1 rfl ?_
    obtain ⟨r_3, hr4, h⟩ := bnd h
    refine un <| ac_pure (r4_Addressed_ok hr4) rfl rfl rfl <| un1 rfl <| un1 (v := (.agg [.str r_3.1.Scheme, .str r_3.1.Host, cI r_3.1.Port, .ro false 1 (r_3.1.Path.map eStr), .str r_3.1.Query, cB r_3.1.Asks, .str r_3.1.Fragment, cB r_3.1.Points])) rfl <| un1 (v := (I r_3.2)) rfl <| un <| a2n (h' := upd _ 1 (some (.cells 8 [[.str r_3.1.Scheme, .str r_3.1.Host, cI r_3.1.Port, .ro false 1 (r_3.1.Path.map eStr), .str r_3.1.Query, cB r_3.1.Asks, .str r_3.1.Fragment, cB r_3.1.Points]]))) (n' := 2) rfl rfl (fun h => by cases h) <| un1 rfl <| dnil ?_
    exact Sv.weak (wcn [1] rfl (.cons rfl (.c (.ref rfl (by decide))) (.cf rfl rfl .nil)) (.box (by decide) rfl (blkAs_cells (.sm rfl (.sm rfl (.sm rfl (.sm rfl (.sm rfl (.sm rfl (.sm rfl (.sm rfl .nil))))))))) .nil)) (r4_Resolved_j10_ok h)
   ·replace h := ifF hc5 h
    refine ssr <| un1 rfl ?_
    obtain ⟨r_4, hr5, h⟩ := bnd h
    refine un <| ac_pure (strings_HasPrefix_ok hr5) rfl rfl rfl <| un1 rfl <| dnil ?_
    refine Sv.cond (b := r_4) rfl (fun hc6 => ?_) (fun hc6 => ?_)
    ·replace h := ifT hc6 h
     refine srg <| un1 (v := (.c (.ref 0 8 0 0))) rfl <| un1 (v := (S r_.1.Scheme)) rfl ?_
     obtain ⟨r_5, hx1, h⟩ := bnd h
     refine un1 (v := (S r_5)) (s_cat rfl rfl hx1) <| un1 rfl ?_
     obtain ⟨r_6, hx2, h⟩ := bnd h
     refine un1 (v := (S r_6)) (s_cat rfl rfl hx2) ?_
     obtain ⟨r_7, hr6, h⟩ := bnd h
     refine un <| ac_pure (r4_Addressed_ok hr6) rfl rfl rfl <| un1 rfl <| un1 (v := (.agg [.str r_7.1.Scheme, .str r_7.1.Host, cI r_7.1.Port, .ro false 1 (r_7.1.Path.map eStr), .str r_7.1.Query, cB r_7.1.Asks, .str r_7.1.Fragment, cB r_7.1.Points])) rfl <| un1 (v := (I r_7.2)) rfl <| un <| a2n (h' := upd _ 1 (some (.cells 8 [[.str r_7.1.Scheme, .str r_7.1.Host, cI r_7.1.Port, .ro false 1 (r_7.1.Path.map eStr), .str r_7.1.Query, cB r_7.1.Asks, .str r_7.1.Fragment, cB r_7.1.Points]]))) (n' := 2) rfl rfl (fun h => by cases h) <| un1 rfl <| dnil ?_
     exact Sv.weak (wcn [1] rfl (.cons rfl (.c (.ref rfl (by decide))) (.cf rfl rfl .nil)) (.box (by decide) rfl (blkAs_cells (.sm rfl (.sm rfl (.sm rfl (.sm rfl (.sm rfl (.sm rfl (.sm rfl (.sm rfl .nil))))))))) .nil)) (r4_Resolved_j10_ok h)
    ·replace h := ifF hc6 h
     refine ssr <| un1 rfl ?_
     obtain ⟨r_8, hr7, h⟩ := bnd h
     refine un <| ac_gen (bs := [1]) («as» := [(.c (.ref 1 8 0 0)), (S ref)]) (h2 := _) (h1 := (upd e0 1 (some (.cells 8 [[.str r_.1.Scheme, .str r_.1.Host, cI r_.1.Port, .ro false 1 (r_.1.Path.map eStr), .str r_.1.Query, cB r_.1.Asks, .str r_.1.Fragment, cB r_.1.Points]])))) (r4_TailOf_ok hr7) rfl (.cons (.c (.ref rfl (by decide))) (.cons (avAs_free rfl) .nil)) (hsub_refl _) (.cons rfl (.nil _)) (fun h => by cases h) (by decide) (by decide) (.cons (.c (.ref rfl (by decide))) (.cons (avAs_free rfl) .nil)) (.box (by decide) rfl (blkAs_cells (.sm rfl (.sm rfl (.sm rfl (.sm rfl (.sm rfl (.sm rfl (.sm rfl (.sm rfl .nil))))))))) .nil) ?_
     rintro _ _ _ hn ⟨rfl, rfl, rfl⟩
     refine ⟨.inl rfl, (upd (rem [1] _) 1 (some (.cells 8 [[.str r_8.2.2.Scheme, .str r_8.2.2.Host, cI r_8.2.2.Port, .ro false 1 (r_8.2.2.Path.map eStr), .str r_8.2.2.Query, cB r_8.2.2.Asks, .str r_8.2.2.Fragment, cB r_8.2.2.Points]]))), fun hbd => (m3_cons (m3_box rfl rfl) (m3_rem (in_cons (by decide) (in_nil _)) (.cons (by decide) .nil) hbd)), (.tup [(S r_8.1), (B r_8.2.1)]), 2, rfl, rfl, ?_⟩
     refine un1 rfl <| un1 (v := (S r_8.1)) rfl <| un1 (v := (B r_8.2.1)) rfl <| un1 rfl <| un1 rfl <| dnil <| Sv.seq <| ssr <| un1 rfl <| un1 (v := (B (decide (r_8.1 = [])))) rfl <| un1 rfl ?_
     refine gjoin 4 (d := 44) (v := (B ((decide (r_8.1 = [])) && (!r_8.2.2.Asks)))) (fun X hX => ?_) ?_
     ·refine split2 (fun hc12 => ?_) (fun hc12 => ?_)
      ·refine gt rfl <| a1 (v := (.c (.ref 1 8 0 5))) rfl <| gt rfl <| a1 (v := (B r_8.2.2.Asks)) rfl <| gt rfl <| a1 (v := (B (!r_8.2.2.Asks))) rfl <| un1 (v := (B (!r_8.2.2.Asks))) rfl <| dnil ?_
       exact hX _ (.putEq (by rw [hc12]; rfl) (.skip _ _ (.skip _ _ (.skip _ _ (.putEq (by rw [hc12]) (.refl _)) rfl) rfl) rfl))
      ·refine gs rfl rfl <| gs rfl rfl <| gs rfl rfl <| un1 (v := (B false)) rfl <| dnil ?_
       exact hX _ (.putEq (by rw [hc12]; rfl) (.skip _ _ (.skip _ _ (.skip _ _ (.putEq (by rw [hc12]) (.refl _)) rfl) rfl) rfl))
     refine dnil ?_
     refine Sv.cond (b := ((decide (r_8.1 = [])) && (!r_8.2.2.Asks))) rfl (fun hc13 => ?_) (fun hc13 => ?_)
     ·replace h := ifT hc13 h
      refine Sv.drawn2 <| un1 (v := (.c (.ref 0 8 0 4))) rfl <| un1 (v := (S r_.1.Query)) rfl <| un1 (v := (.c (.ref 0 8 0 5))) rfl <| un1 (v := (.c (.ref 1 8 0 4))) rfl <| dnil ?_
      refine ⟨?_, ?_⟩
      ·refine un1 (v := (B r_.1.Asks)) rfl <| un <| a2n (h' := upd _ 1 (some (.cells 8 [[.str r_8.2.2.Scheme, .str r_8.2.2.Host, cI r_8.2.2.Port, .ro false 1 (r_8.2.2.Path.map eStr), .str r_.1.Query, cB r_8.2.2.Asks, .str r_8.2.2.Fragment, cB r_8.2.2.Points]]))) (n' := 2) rfl rfl (fun h => by cases h) <| un1 (v := (.c (.ref 1 8 0 5))) rfl <| un <| a2n (h' := upd _ 1 (some (.cells 8 [[.str r_8.2.2.Scheme, .str r_8.2.2.Host, cI r_8.2.2.Port, .ro false 1 (r_8.2.2.Path.map eStr), .str r_.1.Query, cB r_.1.Asks, .str r_8.2.2.Fragment, cB r_8.2.2.Points]]))) (n' := 2) rfl rfl (fun h => by cases h) <| dnil ?_
       exact Sv.weak (wcn [0, 1] rfl (.cf rfl rfl (.cf rfl rfl (.cons rfl (.c (.ref rfl (by decide))) (.cf rfl rfl (.cons rfl (.c (.ref rfl (by decide))) .nil))))) (.box (by decide) rfl (blkAs_cells (.sm rfl (.sm rfl (.sm rfl (.sm rfl (.sm rfl (.sm rfl (.sm rfl (.sm rfl .nil))))))))) (.box (by decide) rfl (blkAs_cells (.sm rfl (.sm rfl (.sm rfl (.sm rfl (.sm rfl (.sm rfl (.sm rfl (.sm rfl .nil))))))))) .nil))) (r4_Resolved_j11_ok h)
      ·refine un <| a2n (h' := upd _ 1 (some (.cells 8 [[.str r_8.2.2.Scheme, .str r_8.2.2.Host, cI r_8.2.2.Port, .ro false 1 (r_8.2.2.Path.map eStr), .str r_.1.Query, cB r_8.2.2.Asks, .str r_8.2.2.Fragment, cB r_8.2.2.Points]]))) (n' := 2) rfl rfl (fun h => by cases h) <| un1 (v := (B r_.1.Asks)) rfl <| un1 (v := (.c (.ref 1 8 0 5))) rfl <| un <| a2n (h' := upd _ 1 (some (.cells 8 [[.str r_8.2.2.Scheme, .str r_8.2.2.Host, cI r_8.2.2.Port, .ro false 1 (r_8.2.2.Path.map eStr), .str r_.1.Query, cB r_.1.Asks, .str r_8.2.2.Fragment, cB r_8.2.2.Points]]))) (n' := 2) rfl rfl (fun h => by cases h) <| dnil ?_
       exact Sv.weak (wcn [0, 1] rfl (.cf rfl rfl (.cf rfl rfl (.cons rfl (.c (.ref rfl (by decide))) (.cf rfl rfl (.cons rfl (.c (.ref rfl (by decide))) .nil))))) (.box (by decide) rfl (blkAs_cells (.sm rfl (.sm rfl (.sm rfl (.sm rfl (.sm rfl (.sm rfl (.sm rfl (.sm rfl .nil))))))))) (.box (by decide) rfl (blkAs_cells (.sm rfl (.sm rfl (.sm rfl (.sm rfl (.sm rfl (.sm rfl (.sm rfl (.sm rfl .nil))))))))) .nil))) (r4_Resolved_j11_ok h)
     ·replace h := ifF hc13 h
      refine Sv.skip ?_
      exact Sv.weak (wcn [0, 1] rfl (.cf rfl rfl (.cf rfl rfl (.cons rfl (.c (.ref rfl (by decide))) (.cf rfl rfl (.cons rfl (.c (.ref rfl (by decide))) .nil))))) (.box (by decide) rfl (blkAs_cells (.sm rfl (.sm rfl (.sm rfl (.sm rfl (.sm rfl (.sm rfl (.sm rfl (.sm rfl .nil))))))))) (.box (by decide) rfl (blkAs_cells (.sm rfl (.sm rfl (.sm rfl (.sm rfl (.sm rfl (.sm rfl (.sm rfl (.sm rfl .nil))))))))) .nil))) (r4_Resolved_j11_ok h)
def a5 : AFunc := ⟨2, [(.tmp 4)], (.seq (.region [⟨(some 4), (.mov (.const (.c (.val (.bool false))))), none⟩])
 (.seq (.region [(mV 10 0), (mV 11 1), (oP 12 (.call 15 [(.tmp 10), (.tmp 11)])), (mV 9 12), (oP 13 (.ext (.tmp 9) 0)), (oP 14 (.ext (.tmp 9) 1)), (mV 5 13), (mV 6 14)])
 (.seq (.region [(mV 16 0), (mV 17 1), (oP 18 (.call 16 [(.tmp 16), (.tmp 17)])), (mV 15 18), (oP 19 (.ext (.tmp 15) 0)), (oP 20 (.ext (.tmp 15) 1)), (mV 7 19), (mV 8 20)])
 (.seq (.region [(mV 21 5), (mV 22 7), (oP 23 (.bin .eql (.tmp 21) (.tmp 22))), (mV 24 23), ⟨(some 25), (.mov (.tmp 6)), (some (24, true))⟩, ⟨(some 26), (.mov (.tmp 8)), (some (24, true))⟩, ⟨(some 27), (.bin .eql (.tmp 25) (.tmp 26)), (some (24, true))⟩, ⟨(some 28), (.pick (.tmp 24) (.tmp 27) (.const (.c (.val (.bool false))))), none⟩, (mV 4 28)])
 .ret))))⟩
set_option maxRecDepth 100000 in
theorem c5 : compFunc Tryz.prog 5 = some a5 := by kernel_rfl
def l4_UrlResolves_post (r : Bool) : AV → Heap → Nat → Prop := fun v h' n' => v = (B r) ∧ (h' = e0) ∧ n' = 0
/-- clerestory/clerestorylaw4.UrlResolves -/
noncomputable def l4_UrlResolves (base : Tx) (ref : Tx) : Option Bool :=
 (url_Resolve base ref).bind fun r_ =>
 (r4_Resolved base ref).bind fun r_1 =>
 some ((decide (r_.1 = r_1.1)) && (decide (r_.2 = r_1.2)))
theorem l4_UrlResolves_ok {mL : Int} {base : Tx} {ref : Tx} {r : Bool} (h : l4_UrlResolves base ref = some r) : CPure Tryz.prog (GG mL) 5 [(S base), (S ref)] (B r) := by
 refine acalls_of_sv hmix c5 (R := l4_UrlResolves_post r) ?_
 unfold l4_UrlResolves at h
 refine ssr <| un1 rfl <| dnil <| ssr <| un1 rfl <| un1 rfl ?_
 obtain ⟨r_, hr1, h⟩ := bnd h
 refine un <| ac_pure (url_Resolve_ok hr1) rfl rfl rfl <| un1 rfl <| un1 (v := (S r_.1)) rfl <| un1 (v := (I r_.2)) rfl <| un1 rfl <| un1 rfl <| dnil <| ssr <| un1 rfl <| un1 rfl ?_
 obtain ⟨r_1, hr2, h⟩ := bnd h
 refine un <| ac_pure (r4_Resolved_ok hr2) rfl rfl rfl <| un1 rfl <| un1 (v := (S r_1.1)) rfl <| un1 (v := (I r_1.2)) rfl <| un1 rfl <| un1 rfl <| dnil <| ssr <| un1 rfl <| un1 rfl <| un1 (v := (B (decide (r_.1 = r_1.1)))) rfl <| un1 rfl ?_
 refine gjoin 4 (d := 28) (v := (B ((decide (r_.1 = r_1.1)) && (decide (r_.2 = r_1.2))))) (fun X hX => ?_) ?_
 ·refine split2 (fun hc1 => ?_) (fun hc1 => ?_)
  ·refine gt rfl <| a1 rfl <| gt rfl <| a1 rfl <| gt rfl <| a1 (v := (B (decide (r_.2 = r_1.2)))) rfl <| un1 (v := (B (decide (r_.2 = r_1.2)))) rfl <| dnil ?_
   exact hX _ (.putEq (by rw [hc1]; rfl) (.skip _ _ (.skip _ _ (.skip _ _ (.putEq (by rw [hc1]) (.refl _)) rfl) rfl) rfl))
  ·refine gs rfl rfl <| gs rfl rfl <| gs rfl rfl <| un1 (v := (B false)) rfl <| dnil ?_
   exact hX _ (.putEq (by rw [hc1]; rfl) (.skip _ _ (.skip _ _ (.skip _ _ (.putEq (by rw [hc1]) (.refl _)) rfl) rfl) rfl))
 refine un1 rfl <| dnil <| Sv.ret ?_
 replace h := Option.some.inj h
 subst h
 exact ⟨_, .refl _, _, rfl, ⟨upd e0 0 (some (B ((decide (r_.1 = r_1.1)) && (decide (r_.2 = r_1.2))))), e0, 0⟩, (B ((decide (r_.1 = r_1.1)) && (decide (r_.2 = r_1.2)))), weak_canon [] rfl List.nodup_nil (Nat.le_refl _) nlz (.cf rfl rfl .nil) .nil, rfl, rfl, rfl, rfl⟩
end Go.Proofs.YtjicgjhhiallkaaGreatDoorBv
-- squeezed
