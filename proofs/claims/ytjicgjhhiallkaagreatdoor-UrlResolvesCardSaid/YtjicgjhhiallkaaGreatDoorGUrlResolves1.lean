/- Printed by a program of mine (bgen.py): plain functions, and the walks that show that the code comes to what they answer. -/
import Derived.Test.YtjicgjhhiallkaaGreatDoorGUrlResolves0
namespace Go.Proofs.YtjicgjhhiallkaaGreatDoorBv
open Go
set_option linter.unusedVariables false
set_option linter.unusedSimpArgs false
set_option maxRecDepth 100000
def a6_c0 : ACode := (.seq (.seq (.region [(mV 44 6), (mV 45 9), (oP 46 (.slStr (.tmp 44) none (some (.tmp 45)))), (oP 47 (.call 20 [(.tmp 4), (.tmp 46)])), (oP 48 (.un .not (.tmp 47)))])
 (.cond (.tmp 48) (.seq (.region [(oP 49 (.build [(.str []), (.str []), (.val (.int .i64 0)), (.ro true 1 []), (.str []), (.val (.bool false)), (.str []), (.val (.bool false))] [])), ⟨none, (.store 8 (.tmp 2) (.tmp 49)), none⟩, ⟨(some 3), (.mov (kI 3)), none⟩])
 .ret) .skip))
 (.seq (.region [(mV 51 6), (mV 52 9), (oP 53 (.slStr (.tmp 51) (some (.tmp 52)) none)), (oP 54 (.call 21 [(.tmp 4), (.tmp 53)])), (mV 50 54), (oP 55 (.ext (.tmp 50) 0)), (oP 56 (.ext (.tmp 50) 1)), (mV 10 55), (mV 11 56)])
 (.seq (.region [(mV 58 10), ⟨(some 59), (.call 23 [(.tmp 58), (.const (.c (.str [47])))]), none⟩, (oP 60 (.call 22 [(.tmp 59)])), (mV 57 60), (oP 61 (.ext (.tmp 57) 0)), (oP 62 (.ext (.tmp 57) 1)), (mV 12 61), (mV 13 62)])
 (.seq (.seq (.region [(mV 63 11), (oP 64 (.un .not (.tmp 63))), (mV 65 64), ⟨(some 66), (.mov (.tmp 13)), (some (65, false))⟩, ⟨(some 67), (.un .not (.tmp 66)), (some (65, false))⟩, ⟨(some 68), (.pick (.tmp 65) (.const (.c (.val (.bool true)))) (.tmp 67)), none⟩])
 (.cond (.tmp 68) (.seq (.region [(oP 69 (.build [(.str []), (.str []), (.val (.int .i64 0)), (.ro true 1 []), (.str []), (.val (.bool false)), (.str []), (.val (.bool false))] [])), ⟨none, (.store 8 (.tmp 2) (.tmp 69)), none⟩, ⟨(some 3), (.mov (kI 3)), none⟩])
 .ret) .skip))
 (.seq (.region [(mV 70 12), (oP 71 (.call 24 [(.tmp 70)])), (oP 72 (.faddr 3 (.tmp 4))), ⟨none, (.store 1 (.tmp 72) (.tmp 71)), none⟩])
 (.seq (.region [(oP 73 (.load true 8 (.tmp 4))), ⟨none, (.store 8 (.tmp 2) (.tmp 73)), none⟩, ⟨(some 3), (.mov (kI 0)), none⟩])
 .ret))))))
def a6 : AFunc := ⟨1, [(.cell true 8 2), (.tmp 3)], (.seq (.region [⟨(some 2), (.box (.const (.agg [(.str []), (.str []), (.val (.int .i64 0)), (.ro true 1 []), (.str []), (.val (.bool false)), (.str []), (.val (.bool false))]))), none⟩, ⟨(some 3), (.mov (kI 0)), none⟩])
 (.seq (.seq (.region [(mV 14 0), (oP 15 (.lenS (.tmp 14))), ⟨(some 16), (.bin .gtr (.tmp 15) (kI 500)), none⟩])
 (.cond (.tmp 16) (.seq (.region [(oP 17 (.build [(.str []), (.str []), (.val (.int .i64 0)), (.ro true 1 []), (.str []), (.val (.bool false)), (.str []), (.val (.bool false))] [])), ⟨none, (.store 8 (.tmp 2) (.tmp 17)), none⟩, ⟨(some 3), (.mov (kI 2)), none⟩])
 .ret) .skip))
 (.seq (.region [⟨(some 4), (.box (.const (.agg [(.str []), (.str []), (.val (.int .i64 0)), (.ro true 1 []), (.str []), (.val (.bool false)), (.str []), (.val (.bool false))]))), none⟩])
 (.seq (.region [(mV 19 0), (oP 20 (.call 17 [(.tmp 19)])), (mV 18 20), (oP 21 (.ext (.tmp 18) 0)), (oP 22 (.ext (.tmp 18) 1)), (oP 23 (.ext (.tmp 18) 2)), (mV 5 21), (mV 6 22), (mV 7 23)])
 (.seq (.region [(mV 25 6), ⟨(some 26), (.call 18 [(.tmp 25), (.const (.c (.str [47, 47])))]), none⟩, (mV 24 26), (oP 27 (.ext (.tmp 24) 0)), (oP 28 (.ext (.tmp 24) 1)), (mV 6 27), (mV 8 28)])
 (.seq (.seq (.region [(mV 29 7), (oP 30 (.un .not (.tmp 29))), (mV 31 30), ⟨(some 32), (.mov (.tmp 8)), (some (31, false))⟩, ⟨(some 33), (.un .not (.tmp 32)), (some (31, false))⟩, ⟨(some 34), (.pick (.tmp 31) (.const (.c (.val (.bool true)))) (.tmp 33)), none⟩])
 (.cond (.tmp 34) (.seq (.region [(oP 35 (.build [(.str []), (.str []), (.val (.int .i64 0)), (.ro true 1 []), (.str []), (.val (.bool false)), (.str []), (.val (.bool false))] [])), ⟨none, (.store 8 (.tmp 2) (.tmp 35)), none⟩, ⟨(some 3), (.mov (kI 3)), none⟩])
 .ret) .skip))
 (.seq (.region [(mV 36 5), (oP 37 (.faddr 0 (.tmp 4))), ⟨none, (.store 1 (.tmp 37) (.tmp 36)), none⟩])
 (.seq (.region [(mV 38 6), ⟨(some 39), (.call 19 [(.tmp 38), (.const (.c (.str [47, 63, 35])))]), none⟩, (mV 9 39)])
 (.seq (.seq (.region [(mV 40 9), ⟨(some 41), (.bin .lss (.tmp 40) (kI 0)), none⟩])
 (.cond (.tmp 41) (.region [(mV 42 6), (oP 43 (.lenS (.tmp 42))), (mV 9 43)]) .skip))
 a6_c0)))))))))⟩
set_option maxRecDepth 100000 in
theorem c6 : compFunc Tryz.prog 6 = some a6 := by kernel_rfl
def url_Parse_post (r : (TJUrl × Int)) : AV → Heap → Nat → Prop := fun v h' n' => v = (.tup [(.agg [.str r.1.Scheme, .str r.1.Host, cI r.1.Port, .ro false 1 (r.1.Path.map eStr), .str r.1.Query, cB r.1.Asks, .str r.1.Fragment, cB r.1.Points]), (I r.2)]) ∧ (h' = e0) ∧ n' = 0
noncomputable def url_Parse_j1 (r_1 : (Tx × Bool)) (r_ : (Tx × Tx × Bool)) (n_ : Int) : Option (TJUrl × Int) :=
 (sub? r_1.1 0 n_).bind fun r_3 =>
 (url_place1 (⟨r_.1, [], 0, [], [], false, [], false⟩ : TJUrl) r_3).bind fun r_4 =>
 if (!r_4.1) then
  some ((⟨[], [], 0, [], [], false, [], false⟩ : TJUrl), 3)
 else
  (sub? r_1.1 n_ (r_1.1.length : Int)).bind fun r_5 =>
  (url_tail1 r_4.2 r_5).bind fun r_6 =>
  (strings_TrimPrefix r_6.1 [47]).bind fun r_7 =>
  (url_segments r_7).bind fun r_8 =>
  if ((!r_6.2.1) || (!r_8.2)) then
   some ((⟨[], [], 0, [], [], false, [], false⟩ : TJUrl), 3)
  else
   (url_tidy r_8.1).bind fun r_9 =>
   some ((⟨r_6.2.2.Scheme, r_6.2.2.Host, r_6.2.2.Port, r_9, r_6.2.2.Query, r_6.2.2.Asks, r_6.2.2.Fragment, r_6.2.2.Points⟩ : TJUrl), 0)
theorem url_Parse_j1_ok {mL : Int} {r_1 : (Tx × Bool)} {r_ : (Tx × Tx × Bool)} {n_ : Int} {o : (TJUrl × Int)} (h : url_Parse_j1 r_1 r_ n_ = some o) :
  Sv Tryz.prog (GG mL) 0 a6_c0 (Ends a6.results 0 (url_Parse_post o)) ⟨(upd (upd (upd (upd e0 2 (some (.c (.ref 0 8 0 0)))) 4 (some (.c (.ref 1 8 0 0)))) 6 (some (S r_1.1))) 9 (some (I n_))), (upd (upd e0 0 (some (.cells 8 [[.str [], .str [], cI 0, .ro true 1 [], .str [], cB false, .str [], cB false]]))) 1 (some (.cells 8 [[.str r_.1, .str [], cI 0, .ro true 1 [], .str [], cB false, .str [], cB false]]))), 2⟩ := by
 unfold url_Parse_j1 at h
 refine Sv.seq <| ssr <| un1 rfl <| un1 rfl ?_
 obtain ⟨r_3, hx1, h⟩ := bnd h
 refine un1 (v := (S r_3)) (s_slStr rfl rfl rfl hx1) <| dweak (show Weak 0 _ ⟨(upd (upd (upd (upd (upd (upd (upd e0 2 (some (.c (.ref 0 8 0 0)))) 4 (some (.c (.ref 1 8 0 0)))) 6 (some (S r_1.1))) 9 (some (I n_))) 44 (some (S r_1.1))) 45 (some (I n_))) 46 (some (S r_3))), (upd (upd (upd e0 0 (some (.cells 8 [[.str [], .str [], cI 0, .ro true 1 [], .str [], cB false, .str [], cB false]]))) 1 (some (.cells 8 [[.str r_.1, .str [], cI 0, lstC true 2 1 ([] : TT).length, .str [], cB false, .str [], cB false]]))) 2 (lstB true 1 (([] : TT).map eStr))), 3⟩ from (wcn [0, 1, 1002] rfl (.cf rfl rfl (.cf rfl rfl (.cf rfl rfl (.cf rfl rfl (.cf rfl rfl (.cons rfl (.c (.ref rfl (by decide))) (.cons rfl (.c (.ref rfl (by decide))) .nil))))))) (.non (by decide) (.box (by decide) rfl (blkAs_cells (.sm rfl (.sm rfl (.sm rfl (.sm rfl (.sm rfl (.sm rfl (.sm rfl (.sm rfl .nil))))))))) (.box (by decide) rfl (blkAs_cells (.sm rfl (.sm rfl (.sm rfl (.sm rfl (.sm rfl (.sm rfl (.sm rfl (.sm rfl .nil))))))))) .nil))))) ?_
 obtain ⟨r_4, hr4, h⟩ := bnd h
 refine un <| ac_gen (bs := [1, 2]) («as» := [(.c (.ref 1 8 0 0)), (S r_3)]) (h2 := _) (h1 := (upd (upd e0 1 (some (.cells 8 [[.str r_.1, .str [], cI 0, lstC true 2 1 ([] : TT).length, .str [], cB false, .str [], cB false]]))) 2 (lstB true 1 (([] : TT).map eStr)))) (url_place1_ok (fun _ => rfl) hr4) rfl (.cons (.c (.ref rfl (by decide))) (.cons (avAs_free rfl) .nil)) (hsub_refl _) (.cons rfl (.cons rfl (.nil _))) (fun h => by cases h) (by decide) (by decide) (.cons (.c (.ref rfl (by decide))) (.cons (avAs_free rfl) .nil)) (.row (by decide) rfl (fr_map fun _ => rfl) (.box (by decide) rfl (blkAs_cells (.sm rfl (.sm rfl (.sm rfl (.cons (lstC_ren rfl (by decide)) (.sm rfl (.sm rfl (.sm rfl (.sm rfl .nil))))))))) .nil)) ?_
 rintro _ _ _ hn ⟨z_, hz_, rfl, rfl, rfl⟩
 refine ⟨.inl rfl, (upd (upd (rem [1, 2] _) 1 (some (.cells 8 [[.str r_4.2.Scheme, .str r_4.2.Host, cI r_4.2.Port, lstC z_ 3 1 r_4.2.Path.length, .str r_4.2.Query, cB r_4.2.Asks, .str r_4.2.Fragment, cB r_4.2.Points]]))) 3 (lstB z_ 1 (r_4.2.Path.map eStr))), fun hbd => (m3_cons (m3_row rfl (fr_map fun _ => rfl)) (m3_cons (m3_box rfl (by cases z_ <;> rfl)) (m3_rem (in_cons (by decide) (in_cons (by decide) (in_nil _))) (.cons (by decide) (.cons (by decide) .nil)) hbd))), (B r_4.1), 4, (by cases z_ <;> rfl), rfl, ?_⟩
 refine un1 (v := (B (!r_4.1))) rfl <| dnil ?_
 refine Sv.cond (b := (!r_4.1)) rfl (fun hc4 => ?_) (fun hc4 => ?_)
 ·replace h := ifT hc4 h
  refine ssr <| un1 (v := (.agg [.str [], .str [], cI 0, .ro true 1 [], .str [], cB false, .str [], cB false])) rfl <| un <| a2n (h' := upd _ 0 (some (.cells 8 [[.str [], .str [], cI 0, .ro true 1 [], .str [], cB false, .str [], cB false]]))) (n' := 4) rfl rfl (fun h => by cases h) <| un1 rfl <| dnil <| Sv.ret ?_
  replace h := Option.some.inj h
  subst h
  exact ⟨_, .refl _, _, rfl, ⟨upd e0 0 (some (.tup [(.agg [.str [], .str [], cI 0, .ro false 1 (([] : TT).map eStr), .str [], cB false, .str [], cB false]), (I 3)])), e0, 0⟩, (.tup [(.agg [.str [], .str [], cI 0, .ro false 1 (([] : TT).map eStr), .str [], cB false, .str [], cB false]), (I 3)]), weak_canon [] rfl List.nodup_nil (Nat.le_refl _) nlz (.cons rfl (avAs_tup (.cons (avAs_agg (.sm rfl (.sm rfl (.sm rfl (.cons .nil (.sm rfl (.sm rfl (.sm rfl (.sm rfl .nil))))))))) (.cons (avAs_free rfl) .nil))) .nil) .nil, rfl, rfl, rfl, rfl⟩
 ·replace h := ifF hc4 h
  refine Sv.skip <| ssr <| un1 rfl <| un1 rfl ?_
  obtain ⟨r_5, hx2, h⟩ := bnd h
  refine un1 (v := (S r_5)) (s_slStr rfl rfl rfl hx2) ?_
  obtain ⟨r_6, hr5, h⟩ := bnd h
  refine un <| ac_gen (bs := [1, 3]) («as» := [(.c (.ref 1 8 0 0)), (S r_5)]) (h2 := _) (h1 := (upd (upd e0 1 (some (.cells 8 [[.str r_4.2.Scheme, .str r_4.2.Host, cI r_4.2.Port, lstC z_ 3 1 r_4.2.Path.length, .str r_4.2.Query, cB r_4.2.Asks, .str r_4.2.Fragment, cB r_4.2.Points]]))) 3 (lstB z_ 1 (r_4.2.Path.map eStr)))) (url_tail1_ok hz_ hr5) rfl (.cons (.c (.ref rfl (by decide))) (.cons (avAs_free rfl) .nil)) (hsub_refl _) (.cons rfl (.cons rfl (.nil _))) (fun h => by cases h) (by decide) (by decide) (.cons (.c (.ref rfl (by decide))) (.cons (avAs_free rfl) .nil)) (.row (by decide) rfl (fr_map fun _ => rfl) (.box (by decide) rfl (blkAs_cells (.sm rfl (.sm rfl (.sm rfl (.cons (lstC_ren rfl (by decide)) (.sm rfl (.sm rfl (.sm rfl (.sm rfl .nil))))))))) .nil)) ?_
  rintro _ _ _ hn ⟨z_1, hz_1, rfl, rfl, rfl⟩
  refine ⟨.inl rfl, (upd (upd (rem [1, 3] _) 1 (some (.cells 8 [[.str r_6.2.2.Scheme, .str r_6.2.2.Host, cI r_6.2.2.Port, lstC z_1 4 1 r_6.2.2.Path.length, .str r_6.2.2.Query, cB r_6.2.2.Asks, .str r_6.2.2.Fragment, cB r_6.2.2.Points]]))) 4 (lstB z_1 1 (r_6.2.2.Path.map eStr))), fun hbd => (m3_cons (m3_row rfl (fr_map fun _ => rfl)) (m3_cons (m3_box rfl (by cases z_1 <;> rfl)) (m3_rem (in_cons (by decide) (in_cons (by decide) (in_nil _))) (.cons (by decide) (.cons (by decide) .nil)) hbd))), (.tup [(S r_6.1), (B r_6.2.1)]), 5, (by cases z_1 <;> rfl), rfl, ?_⟩
  refine un1 rfl <| un1 (v := (S r_6.1)) rfl <| un1 (v := (B r_6.2.1)) rfl <| un1 rfl <| un1 rfl <| dnil <| ssr <| un1 rfl ?_
  obtain ⟨r_7, hr6, h⟩ := bnd h
  refine un <| ac_pure (strings_TrimPrefix_ok hr6) rfl rfl rfl ?_
  obtain ⟨r_8, hr7, h⟩ := bnd h
  refine un <| ac_gen (bs := []) («as» := [(S r_7)]) (h2 := _) (h1 := e0) (url_segments_ok hr7) rfl (.cons (avAs_free rfl) .nil) (hsub_refl _) (.nil _) (fun _ => rfl) (by decide) (by decide) (.cons (avAs_free rfl) .nil) .nil ?_
  rintro _ _ _ hn ⟨z_2, hz_2, rfl, rfl, rfl⟩
  refine ⟨.inl rfl, (upd (rem [] _) 5 (lstB z_2 1 (r_8.1.map eStr))), fun hbd => (m3_cons (m3_row rfl (fr_map fun _ => rfl)) (m3_rem (in_nil _) (.cons (by decide) .nil) hbd)), (.tup [(lstV z_2 5 1 r_8.1.length), (B r_8.2)]), 6, (by cases z_2 <;> rfl), rfl, ?_⟩
  refine un1 rfl <| un1 (v := (lstV z_2 5 1 r_8.1.length)) rfl <| un1 (v := (B r_8.2)) rfl <| un1 rfl <| un1 rfl <| dnil <| Sv.seq <| ssr <| un1 rfl <| un1 (v := (B (!r_6.2.1))) rfl <| un1 rfl ?_
  refine gjoin 3 (d := 68) (v := (B ((!r_6.2.1) || (!r_8.2)))) (fun X hX => ?_) ?_
  ·refine split2 (fun hc5 => ?_) (fun hc5 => ?_)
   ·refine gs rfl rfl <| gs rfl rfl <| un1 (v := (B true)) rfl <| dnil ?_
    exact hX _ (.putEq (by rw [hc5]; rfl) (.skip _ _ (.skip _ _ (.putEq (by rw [hc5]) (.refl _)) rfl) rfl))
   ·refine gt rfl <| a1 rfl <| gt rfl <| a1 (v := (B (!r_8.2))) rfl <| un1 (v := (B (!r_8.2))) rfl <| dnil ?_
    exact hX _ (.putEq (by rw [hc5]; rfl) (.skip _ _ (.skip _ _ (.putEq (by rw [hc5]) (.refl _)) rfl) rfl))
  refine dnil ?_
  refine Sv.cond (b := ((!r_6.2.1) || (!r_8.2))) rfl (fun hc6 => ?_) (fun hc6 => ?_)
  ·replace h := ifT hc6 h
   refine ssr <| un1 (v := (.agg [.str [], .str [], cI 0, .ro true 1 [], .str [], cB false, .str [], cB false])) rfl <| un <| a2n (h' := upd _ 0 (some (.cells 8 [[.str [], .str [], cI 0, .ro true 1 [], .str [], cB false, .str [], cB false]]))) (n' := 6) rfl rfl (fun h => by cases h) <| un1 rfl <| dnil <| Sv.ret ?_
   replace h := Option.some.inj h
   subst h
   exact ⟨_, .refl _, _, rfl, ⟨upd e0 0 (some (.tup [(.agg [.str [], .str [], cI 0, .ro false 1 (([] : TT).map eStr), .str [], cB false, .str [], cB false]), (I 3)])), e0, 0⟩, (.tup [(.agg [.str [], .str [], cI 0, .ro false 1 (([] : TT).map eStr), .str [], cB false, .str [], cB false]), (I 3)]), weak_canon [] rfl List.nodup_nil (Nat.le_refl _) nlz (.cons rfl (avAs_tup (.cons (avAs_agg (.sm rfl (.sm rfl (.sm rfl (.cons .nil (.sm rfl (.sm rfl (.sm rfl (.sm rfl .nil))))))))) (.cons (avAs_free rfl) .nil))) .nil) .nil, rfl, rfl, rfl, rfl⟩
  ·replace h := ifF hc6 h
   refine Sv.skip <| ssr <| un1 rfl ?_
   obtain ⟨r_9, hr8, h⟩ := bnd h
   refine un <| ac_gen (bs := []) («as» := [(.c (.ro false 1 (r_8.1.map eStr)))]) (h2 := (upd _ 5 none)) (h1 := e0) (url_tidy_ok hr8) rfl (.cons (.c (lstC_ro (es := List.map eStr r_8.1) rfl (List.length_map eStr).symm (map_nil_of hz_2) (gone rfl) (fr_map fun _ => rfl))) .nil) (hsub_none (hsub_refl _)) (.nil _) (fun _ => rfl) (by decide) (by decide) (.cons (avAs_free rfl) .nil) .nil ?_
   rintro _ _ _ hn ⟨z_3, hz_3, rfl, rfl, rfl⟩
   refine ⟨.inr ⟨(by cases z_3 <;> rfl), (.row (cl_map fun _ => rfl) .nil)⟩, (upd (rem [] _) 6 (lstB z_3 1 (r_9.map eStr))), fun hbd => (m3_cons (m3_row rfl (fr_map fun _ => rfl)) (m3_rem (in_nil _) (.cons (by decide) .nil) hbd)), (lstV z_3 6 1 r_9.length), 7, (by cases z_3 <;> rfl), rfl, ?_⟩
   refine un1 (v := (.c (.ref 1 8 0 3))) rfl <| un <| a2n (h' := upd _ 1 (some (.cells 8 [[.str r_6.2.2.Scheme, .str r_6.2.2.Host, cI r_6.2.2.Port, lstC z_3 6 1 r_9.length, .str r_6.2.2.Query, cB r_6.2.2.Asks, .str r_6.2.2.Fragment, cB r_6.2.2.Points]]))) (n' := 7) rfl rfl (fun h => by cases h) <| dnil <| ssr <| un1 (v := (.agg [.str r_6.2.2.Scheme, .str r_6.2.2.Host, cI r_6.2.2.Port, lstC z_3 6 1 r_9.length, .str r_6.2.2.Query, cB r_6.2.2.Asks, .str r_6.2.2.Fragment, cB r_6.2.2.Points])) rfl <| un <| a2n (h' := upd _ 0 (some (.cells 8 [[.str r_6.2.2.Scheme, .str r_6.2.2.Host, cI r_6.2.2.Port, lstC z_3 6 1 r_9.length, .str r_6.2.2.Query, cB r_6.2.2.Asks, .str r_6.2.2.Fragment, cB r_6.2.2.Points]]))) (n' := 7) rfl rfl (fun h => by cases h) <| un1 rfl <| dnil <| Sv.ret ?_
   replace h := Option.some.inj h
   subst h
   exact ⟨_, .refl _, _, rfl, ⟨upd e0 0 (some (.tup [(.agg [.str r_6.2.2.Scheme, .str r_6.2.2.Host, cI r_6.2.2.Port, .ro false 1 (r_9.map eStr), .str r_6.2.2.Query, cB r_6.2.2.Asks, .str r_6.2.2.Fragment, cB r_6.2.2.Points]), (I 0)])), e0, 0⟩, (.tup [(.agg [.str r_6.2.2.Scheme, .str r_6.2.2.Host, cI r_6.2.2.Port, .ro false 1 (r_9.map eStr), .str r_6.2.2.Query, cB r_6.2.2.Asks, .str r_6.2.2.Fragment, cB r_6.2.2.Points]), (I 0)]), weak_canon [] rfl List.nodup_nil (Nat.le_refl _) nlz (.cons rfl (avAs_tup (.cons (avAs_agg (.sm rfl (.sm rfl (.sm rfl (.cons (lstC_ro (es := List.map eStr r_9) rfl (List.length_map eStr).symm (map_nil_of hz_3) (fun b x hx => not_in (bs := []) rfl b (((.nil) : HLt _ _) b x hx)) (fr_map fun _ => rfl)) (.sm rfl (.sm rfl (.sm rfl (.sm rfl .nil))))))))) (.cons (avAs_free rfl) .nil))) .nil) .nil, rfl, rfl, rfl, rfl⟩
/-- clerestory/url.Parse -/
noncomputable def url_Parse (s_ : Tx) : Option (TJUrl × Int) :=
 if decide (500 < (s_.length : Int)) then
  some ((⟨[], [], 0, [], [], false, [], false⟩ : TJUrl), 2)
 else
  (url_scheme s_).bind fun r_ =>
  (strings_CutPrefix r_.2.1 [47, 47]).bind fun r_1 =>
  if ((!r_.2.2) || (!r_1.2)) then
   some ((⟨[], [], 0, [], [], false, [], false⟩ : TJUrl), 3)
  else
   (strings_IndexAny r_1.1 [47, 63, 35]).bind fun r_2 =>
   if decide (r_2 < 0) then
    url_Parse_j1 r_1 r_ (r_1.1.length : Int)
   else
    url_Parse_j1 r_1 r_ r_2
theorem url_Parse_ok {mL : Int} {s_ : Tx} {r : (TJUrl × Int)} (h : url_Parse s_ = some r) : CPure Tryz.prog (GG mL) 6 [(S s_)] (.tup [(.agg [.str r.1.Scheme, .str r.1.Host, cI r.1.Port, .ro false 1 (r.1.Path.map eStr), .str r.1.Query, cB r.1.Asks, .str r.1.Fragment, cB r.1.Points]), (I r.2)]) := by
 refine acalls_of_sv hmix c6 (R := url_Parse_post r) ?_
 unfold url_Parse at h
 refine ssr <| un <| a2v (v := (.c (.ref 0 8 0 0))) (h' := upd _ 0 (some (.cells 8 [[.str [], .str [], cI 0, .ro true 1 [], .str [], cB false, .str [], cB false]]))) (n' := 1) rfl rfl (fun h => by cases h) <| un1 rfl <| dnil <| Sv.seq <| ssr <| un1 rfl <| un1 (v := (I (s_.length : Int))) rfl <| un1 (v := (B (decide (500 < (s_.length : Int))))) rfl <| dnil ?_
 refine Sv.cond (b := decide (500 < (s_.length : Int))) rfl (fun hc1 => ?_) (fun hc1 => ?_)
 ·replace h := ifT hc1 h
  refine ssr <| un1 (v := (.agg [.str [], .str [], cI 0, .ro true 1 [], .str [], cB false, .str [], cB false])) rfl <| un <| a2n (h' := upd _ 0 (some (.cells 8 [[.str [], .str [], cI 0, .ro true 1 [], .str [], cB false, .str [], cB false]]))) (n' := 1) rfl rfl (fun h => by cases h) <| un1 rfl <| dnil <| Sv.ret ?_
  replace h := Option.some.inj h
  subst h
  exact ⟨_, .refl _, _, rfl, ⟨upd e0 0 (some (.tup [(.agg [.str [], .str [], cI 0, .ro false 1 (([] : TT).map eStr), .str [], cB false, .str [], cB false]), (I 2)])), e0, 0⟩, (.tup [(.agg [.str [], .str [], cI 0, .ro false 1 (([] : TT).map eStr), .str [], cB false, .str [], cB false]), (I 2)]), weak_canon [] rfl List.nodup_nil (Nat.le_refl _) nlz (.cons rfl (avAs_tup (.cons (avAs_agg (.sm rfl (.sm rfl (.sm rfl (.cons .nil (.sm rfl (.sm rfl (.sm rfl (.sm rfl .nil))))))))) (.cons (avAs_free rfl) .nil))) .nil) .nil, rfl, rfl, rfl, rfl⟩
 ·replace h := ifF hc1 h
  refine Sv.skip <| ssr <| un <| a2v (v := (.c (.ref 1 8 0 0))) (h' := upd _ 1 (some (.cells 8 [[.str [], .str [], cI 0, .ro true 1 [], .str [], cB false, .str [], cB false]]))) (n' := 2) rfl rfl (fun h => by cases h) <| dnil <| ssr <| un1 rfl ?_
  obtain ⟨r_, hr1, h⟩ := bnd h
  refine un <| ac_pure (url_scheme_ok hr1) rfl rfl rfl <| un1 rfl <| un1 (v := (S r_.1)) rfl <| un1 (v := (S r_.2.1)) rfl <| un1 (v := (B r_.2.2)) rfl <| un1 rfl <| un1 rfl <| un1 rfl <| dnil <| ssr <| un1 rfl ?_
  obtain ⟨r_1, hr2, h⟩ := bnd h
  refine un <| ac_pure (strings_CutPrefix_ok hr2) rfl rfl rfl <| un1 rfl <| un1 (v := (S r_1.1)) rfl <| un1 (v := (B r_1.2)) rfl <| un1 rfl <| un1 rfl <| dnil <| Sv.seq <| ssr <| un1 rfl <| un1 (v := (B (!r_.2.2))) rfl <| un1 rfl ?_
  refine gjoin 3 (d := 34) (v := (B ((!r_.2.2) || (!r_1.2)))) (fun X hX => ?_) ?_
  ·refine split2 (fun hc2 => ?_) (fun hc2 => ?_)
   ·refine gs rfl rfl <| gs rfl rfl <| un1 (v := (B true)) rfl <| dnil ?_
    exact hX _ (.putEq (by rw [hc2]; rfl) (.skip _ _ (.skip _ _ (.putEq (by rw [hc2]) (.refl _)) rfl) rfl))
   ·refine gt rfl <| a1 rfl <| gt rfl <| a1 (v := (B (!r_1.2))) rfl <| un1 (v := (B (!r_1.2))) rfl <| dnil ?_
    exact hX _ (.putEq (by rw [hc2]; rfl) (.skip _ _ (.skip _ _ (.putEq (by rw [hc2]) (.refl _)) rfl) rfl))
  refine dnil ?_
  refine Sv.cond (b := ((!r_.2.2) || (!r_1.2))) rfl (fun hc3 => ?_) (fun hc3 => ?_)
  ·replace h := ifT hc3 h
   refine ssr <| un1 (v := (.agg [.str [], .str [], cI 0, .ro true 1 [], .str [], cB false, .str [], cB false])) rfl <| un <| a2n (h' := upd _ 0 (some (.cells 8 [[.str [], .str [], cI 0, .ro true 1 [], .str [], cB false, .str [], cB false]]))) (n' := 2) rfl rfl (fun h => by cases h) <| un1 rfl <| dnil <| Sv.ret ?_
   replace h := Option.some.inj h
   subst h
   exact ⟨_, .refl _, _, rfl, ⟨upd e0 0 (some (.tup [(.agg [.str [], .str [], cI 0, .ro false 1 (([] : TT).map eStr), .str [], cB false, .str [], cB false]), (I 3)])), e0, 0⟩, (.tup [(.agg [.str [], .str [], cI 0, .ro false 1 (([] : TT).map eStr), .str [], cB false, .str [], cB false]), (I 3)]), weak_canon [] rfl List.nodup_nil (Nat.le_refl _) nlz (.cons rfl (avAs_tup (.cons (avAs_agg (.sm rfl (.sm rfl (.sm rfl (.cons .nil (.sm rfl (.sm rfl (.sm rfl (.sm rfl .nil))))))))) (.cons (avAs_free rfl) .nil))) .nil) .nil, rfl, rfl, rfl, rfl⟩
  ·replace h := ifF hc3 h
   refine Sv.skip <| ssr <| un1 rfl <| un1 (v := (.c (.ref 1 8 0 0))) rfl <| un <| a2n (h' := upd _ 1 (some (.cells 8 [[.str r_.1, .str [], cI 0, .ro true 1 [], .str [], cB false, .str [], cB false]]))) (n' := 2) rfl rfl (fun h => by cases h) <| dnil <| ssr <| un1 rfl ?_
   obtain ⟨r_2, hr3, h⟩ := bnd h
   refine un <| ac_pure (strings_IndexAny_ok hr3) rfl rfl rfl <| un1 rfl <| dnil <| Sv.seq <| ssr <| un1 rfl <| un1 (v := (B (decide (r_2 < 0)))) rfl <| dnil ?_
   refine Sv.cond (b := decide (r_2 < 0)) rfl (fun hc7 => ?_) (fun hc7 => ?_)
   ·replace h := ifT hc7 h
    refine srg <| un1 rfl <| un1 (v := (I (r_1.1.length : Int))) rfl <| un1 rfl <| dnil ?_
    exact Sv.weak (wcn [0, 1] rfl (.cf rfl rfl (.cf rfl rfl (.cons rfl (.c (.ref rfl (by decide))) (.cons rfl (.c (.ref rfl (by decide))) .nil)))) (.box (by decide) rfl (blkAs_cells (.sm rfl (.sm rfl (.sm rfl (.sm rfl (.sm rfl (.sm rfl (.sm rfl (.sm rfl .nil))))))))) (.box (by decide) rfl (blkAs_cells (.sm rfl (.sm rfl (.sm rfl (.sm rfl (.sm rfl (.sm rfl (.sm rfl (.sm rfl .nil))))))))) .nil))) (url_Parse_j1_ok h)
   ·replace h := ifF hc7 h
    refine Sv.skip ?_
    exact Sv.weak (wcn [0, 1] rfl (.cf rfl rfl (.cf rfl rfl (.cons rfl (.c (.ref rfl (by decide))) (.cons rfl (.c (.ref rfl (by decide))) .nil)))) (.box (by decide) rfl (blkAs_cells (.sm rfl (.sm rfl (.sm rfl (.sm rfl (.sm rfl (.sm rfl (.sm rfl (.sm rfl .nil))))))))) (.box (by decide) rfl (blkAs_cells (.sm rfl (.sm rfl (.sm rfl (.sm rfl (.sm rfl (.sm rfl (.sm rfl (.sm rfl .nil))))))))) .nil))) (url_Parse_j1_ok h)
def a28 : AFunc := ⟨2, [(.tmp 4)], (.seq (.region [⟨(some 4), (.mov (.const (.c (.val (.bool false))))), none⟩])
 (.seq (.region [(mV 5 0), (mV 6 1), (oP 7 (.call 59 [(.tmp 5), (.tmp 6)])), (mV 4 7)])
 .ret))⟩
set_option maxRecDepth 100000 in
theorem c28 : compFunc Tryz.prog 28 = some a28 := by kernel_rfl
def strings_HasPrefix_post (r : Bool) : AV → Heap → Nat → Prop := fun v h' n' => v = (B r) ∧ (h' = e0) ∧ n' = 0
/-- strings.HasPrefix -/
noncomputable def strings_HasPrefix (s_ : Tx) (prefix_ : Tx) : Option Bool :=
 (sl_HasPrefix s_ prefix_).bind fun r_ =>
 some r_
theorem strings_HasPrefix_ok {mL : Int} {s_ : Tx} {prefix_ : Tx} {r : Bool} (h : strings_HasPrefix s_ prefix_ = some r) : CPure Tryz.prog (GG mL) 28 [(S s_), (S prefix_)] (B r) := by
 refine acalls_of_sv hmix c28 (R := strings_HasPrefix_post r) ?_
 unfold strings_HasPrefix at h
 refine ssr <| un1 rfl <| dnil <| ssr <| un1 rfl <| un1 rfl ?_
 obtain ⟨r_, hr1, h⟩ := bnd h
 refine un <| ac_pure (sl_HasPrefix_ok hr1) rfl rfl rfl <| un1 rfl <| dnil <| Sv.ret ?_
 replace h := Option.some.inj h
 subst h
 exact ⟨_, .refl _, _, rfl, ⟨upd e0 0 (some (B r_)), e0, 0⟩, (B r_), weak_canon [] rfl List.nodup_nil (Nat.le_refl _) nlz (.cf rfl rfl .nil) .nil, rfl, rfl, rfl, rfl⟩
noncomputable abbrev slices_Grow_string (n_ : Int) : Option TT := grow? Tx 16 n_
/-- slices.Grow of nil, by the contract of the shelf -/
theorem slices_Grow_string_ok {mL : Int} {n_ : Int} {r : TT} (h : slices_Grow_string n_ = some r) : ACalls Tryz.prog (GG mL) 94 [.c (.ro true 1 []), I n_] e0 0 (fun v h' n' => ∃ z : Bool, (z = true → r = []) ∧ v = lstV z 0 1 r.length ∧ (h' = (upd e0 0 (lstB z 1 (r.map eStr)))) ∧ n' = 1) := grow_ok Tryz.grow94 rfl rfl rfl rfl (by decide) rfl h
def a69_c0 : ACode := (.seq (.region [(oP 12 (.bin .lss (.tmp 11) (.tmp 10)))])
 (.seq (.cond (.tmp 12) .skip (.exit 0))
 (.seq (.block 1 (.seq (.region [(oP 13 (.iaddr 1 (.tmp 9) (.tmp 11))), (oP 14 (.load false 1 (.tmp 13))), (mV 5 14)])
 (.seq (.region [(mV 15 3), (mV 16 5), (oP 17 (.len (.tmp 16))), (oP 18 (.bin .add (.tmp 15) (.tmp 17))), (mV 3 18)])
 (.seq (.region [(mV 19 3), ⟨(some 20), (.bin .lss (.tmp 19) (kI 0)), none⟩])
 (.cond (.tmp 20) (.region [⟨(some 21), .mkif, none⟩, ⟨none, .bad, none⟩]) .skip)))))
 (.region [⟨(some 22), (.bin .add (.tmp 11) (kI 1)), none⟩, (mV 11 22)]))))
def a69_c1 : ACode := (.seq (.region [(oP 28 (.bin .lss (.tmp 27) (.tmp 26)))])
 (.seq (.cond (.tmp 28) .skip (.exit 2))
 (.seq (.block 3 (.seq (.region [(oP 29 (.iaddr 1 (.tmp 25) (.tmp 27))), (oP 30 (.load false 1 (.tmp 29))), (mV 8 30)])
 (.region [(mV 31 6), (mV 32 8), (oP 33 (.app 1 16 (.tmp 31) (.tmp 32))), (mV 6 33)])))
 (.region [⟨(some 34), (.bin .add (.tmp 27) (kI 1)), none⟩, (mV 27 34)]))))
def a69 : AFunc := ⟨1, [(.tmp 2)], (.seq (.region [⟨(some 2), (.mov (.const (.c (.ro true 1 [])))), none⟩])
 (.seq (.region [⟨(some 3), (.mov (kI 0)), none⟩])
 (.seq (.seq (.region [(mV 9 0), (oP 10 (.len (.tmp 9))), ⟨(some 11), (.mov (kI 0)), none⟩])
 (.block 0 (.loop a69_c0)))
 (.seq (.region [(mV 23 3), ⟨(some 24), (.call 94 [(.const (.c (.ro true 1 []))), (.tmp 23)]), none⟩, (mV 6 24)])
 (.seq (.seq (.region [(mV 25 0), (oP 26 (.len (.tmp 25))), ⟨(some 27), (.mov (kI 0)), none⟩])
 (.block 2 (.loop a69_c1)))
 (.seq (.region [(mV 35 6), (mV 2 35)])
 .ret))))))⟩
set_option maxRecDepth 100000 in
theorem c69 : compFunc Tryz.prog 69 = some a69 := by kernel_rfl
def slices_Concat_string_post (r : TT) : AV → Heap → Nat → Prop := fun v h' n' => ∃ z0 : Bool, (z0 = true → r = []) ∧ v = (lstV z0 0 1 r.length) ∧ (h' = (upd e0 0 (lstB z0 1 (r.map eStr)))) ∧ n' = 1
noncomputable def slices_Concat_string_l0 (slices : (List TT)) (K0_ : Int → Option TT) : Nat → Int → Int → Option TT
 | 0, _, _ => none
 | k + 1, size, v11 =>
  if decide (v11 < (slices.length : Int)) then
   (at? slices v11).bind fun x_ =>
   if decide ((wi (size + (x_.length : Int))) < 0) then
    none
   else
    (slices_Concat_string_l0 slices K0_ k) (wi (size + (x_.length : Int))) (wi (v11 + 1))
  else
   K0_ size
theorem slices_Concat_string_l0_ok {mL : Int} {Q : AExit → St → Prop} {slices : (List TT)} {K0_ : Int → Option TT} {k : Nat} {size : Int} {v11 : Int} {o : TT} (h : slices_Concat_string_l0 slices K0_ k size v11 = some o)
  (hK0 : ∀ (size1 : Int), K0_ size1 = some o → ∀ s, Weak 0 s ⟨(upd (upd e0 0 (some (.c (.ro false 1 (slices.map (eSl 1 eStr)))))) 3 (some (I size1))), e0, 0⟩ → Q (.exit 0) s)
  (hr : ∀ s, Ends a69.results 0 (slices_Concat_string_post o) .ret s → Q .ret s) :
  Sv Tryz.prog (GG mL) 0 (.loop a69_c0) Q ⟨(upd (upd (upd (upd (upd e0 0 (some (.c (.ro false 1 (slices.map (eSl 1 eStr)))))) 3 (some (I size))) 9 (some (.c (.ro false 1 (slices.map (eSl 1 eStr)))))) 10 (some (I (slices.length : Int)))) 11 (some (I v11))), e0, 0⟩ := by
 refine Sv.loop (I := fun k s => ∃ (size : Int), ∃ (v11 : Int), slices_Concat_string_l0 slices K0_ k size v11 = some o ∧ s = ⟨(upd (upd (upd (upd (upd e0 0 (some (.c (.ro false 1 (slices.map (eSl 1 eStr)))))) 3 (some (I size))) 9 (some (.c (.ro false 1 (slices.map (eSl 1 eStr)))))) 10 (some (I (slices.length : Int)))) 11 (some (I v11))), e0, 0⟩) (fun k s hI => ?_) ⟨size, v11, h, rfl⟩
 clear h
 clear v11 size
 obtain ⟨size, v11, h, rfl⟩ := hI
 cases k with
 | zero => cases h
 | succ k =>
 rw [slices_Concat_string_l0] at h
 have hself : ∀ (size : Int) (v11 : Int), (slices_Concat_string_l0 slices K0_ k) size v11 = some o → ∀ s, Weak 0 s ⟨(upd (upd (upd (upd (upd e0 0 (some (.c (.ro false 1 (slices.map (eSl 1 eStr)))))) 3 (some (I size))) 9 (some (.c (.ro false 1 (slices.map (eSl 1 eStr)))))) 10 (some (I (slices.length : Int)))) 11 (some (I v11))), e0, 0⟩ → (AThen (fun s' => ∃ s'' k', Weak 0 s' s'' ∧ k' < k + 1 ∧ (fun k s => ∃ (size : Int), ∃ (v11 : Int), slices_Concat_string_l0 slices K0_ k size v11 = some o ∧ s = ⟨(upd (upd (upd (upd (upd e0 0 (some (.c (.ro false 1 (slices.map (eSl 1 eStr)))))) 3 (some (I size))) 9 (some (.c (.ro false 1 (slices.map (eSl 1 eStr)))))) 10 (some (I (slices.length : Int)))) 11 (some (I v11))), e0, 0⟩) k' s'') Q) .normal s := fun size v11 h s hw => ⟨_, k, hw, Nat.lt_succ_self k, size, v11, h, rfl⟩
 refine ssr <| un1 (v := (B (decide (v11 < (slices.length : Int))))) rfl <| dnil <| Sv.seq ?_
 refine Sv.cond (b := decide (v11 < (slices.length : Int))) rfl (fun hc1 => ?_) (fun hc1 => ?_)
 ·replace h := ifT hc1 h
  refine Sv.skip <| Sv.seq <| Sv.block <| ssr ?_
  obtain ⟨x_, hx1, h⟩ := bnd h
  refine un1 (v := (.c (.rop [.ro false 1 (x_.map eStr)]))) (s_iaddr (e := (eSl 1 eStr)) (xs := slices) rfl rfl hx1) <| un1 (v := (.c (.ro false 1 (x_.map eStr)))) rfl <| un1 rfl <| dnil <| ssr <| un1 rfl <| un1 rfl <| un1 (v := (I (x_.length : Int))) (s_len (e := eStr) (xs := x_) rfl) <| un1 (v := (I (wi (size + (x_.length : Int))))) rfl <| un1 rfl <| dnil <| ssr <| un1 rfl <| un1 (v := (B (decide ((wi (size + (x_.length : Int))) < 0)))) rfl <| dnil ?_
  refine Sv.cond (b := decide ((wi (size + (x_.length : Int))) < 0)) rfl (fun hc2 => ?_) (fun hc2 => ?_)
  ·replace h := ifT hc2 h
   refine srg <| un1 (v := (.c (.opq))) rfl ?_
   cases h
  ·replace h := ifF hc2 h
   refine Sv.skip <| srg <| un1 (v := (I (wi (v11 + 1)))) rfl <| un1 rfl <| dnil ?_
   exact hself (wi (size + (x_.length : Int))) (wi (v11 + 1)) h _ (wcn [] rfl (.cf rfl rfl (.cf rfl rfl (.cf rfl rfl (.cf rfl rfl (.cf rfl rfl .nil))))) .nil)
 ·replace h := ifF hc1 h
  refine Sv.exit ?_
  exact hK0 size h _ (wcn [] rfl (.cf rfl rfl (.cf rfl rfl .nil)) .nil)
noncomputable def slices_Concat_string_l1 (slices : (List TT)) (K2_ : TT → Option TT) : Nat → TT → Int → Option TT
 | 0, _, _ => none
 | k + 1, newslice, v27 =>
  if decide (v27 < (slices.length : Int)) then
   (at? slices v27).bind fun x_1 =>
   (app? 16 newslice x_1).bind fun r_1 =>
   (slices_Concat_string_l1 slices K2_ k) r_1 (wi (v27 + 1))
  else
   K2_ newslice
theorem slices_Concat_string_l1_ok {mL : Int} {Q : AExit → St → Prop} {slices : (List TT)} {K2_ : TT → Option TT} {k : Nat} {newslice : TT} {v27 : Int} {znewslice : Bool} (hznewslice : znewslice = true → newslice = []) {o : TT} (h : slices_Concat_string_l1 slices K2_ k newslice v27 = some o)
  (hK2 : ∀ (newslice1 : TT) (znewslice1 : Bool) (_ : znewslice1 = true → newslice1 = []), K2_ newslice1 = some o → ∀ s, Weak 0 s ⟨(upd e0 6 (some (lstV znewslice1 0 1 newslice1.length))), (upd e0 0 (lstB znewslice1 1 (newslice1.map eStr))), 1⟩ → Q (.exit 2) s)
  (hr : ∀ s, Ends a69.results 0 (slices_Concat_string_post o) .ret s → Q .ret s) :
  Sv Tryz.prog (GG mL) 0 (.loop a69_c1) Q ⟨(upd (upd (upd (upd e0 6 (some (lstV znewslice 0 1 newslice.length))) 25 (some (.c (.ro false 1 (slices.map (eSl 1 eStr)))))) 26 (some (I (slices.length : Int)))) 27 (some (I v27))), (upd e0 0 (lstB znewslice 1 (newslice.map eStr))), 1⟩ := by
 refine Sv.loop (I := fun k s => ∃ (newslice : TT), ∃ (v27 : Int), ∃ (znewslice : Bool), (znewslice = true → newslice = []) ∧ slices_Concat_string_l1 slices K2_ k newslice v27 = some o ∧ s = ⟨(upd (upd (upd (upd e0 6 (some (lstV znewslice 0 1 newslice.length))) 25 (some (.c (.ro false 1 (slices.map (eSl 1 eStr)))))) 26 (some (I (slices.length : Int)))) 27 (some (I v27))), (upd e0 0 (lstB znewslice 1 (newslice.map eStr))), 1⟩) (fun k s hI => ?_) ⟨newslice, v27, znewslice, hznewslice, h, rfl⟩
 clear h
 clear hznewslice znewslice v27 newslice
 obtain ⟨newslice, v27, znewslice, hznewslice, h, rfl⟩ := hI
 cases k with
 | zero => cases h
 | succ k =>
 rw [slices_Concat_string_l1] at h
 have hself : ∀ (newslice : TT) (v27 : Int) (znewslice : Bool) (_ : znewslice = true → newslice = []), (slices_Concat_string_l1 slices K2_ k) newslice v27 = some o → ∀ s, Weak 0 s ⟨(upd (upd (upd (upd e0 6 (some (lstV znewslice 0 1 newslice.length))) 25 (some (.c (.ro false 1 (slices.map (eSl 1 eStr)))))) 26 (some (I (slices.length : Int)))) 27 (some (I v27))), (upd e0 0 (lstB znewslice 1 (newslice.map eStr))), 1⟩ → (AThen (fun s' => ∃ s'' k', Weak 0 s' s'' ∧ k' < k + 1 ∧ (fun k s => ∃ (newslice : TT), ∃ (v27 : Int), ∃ (znewslice : Bool), (znewslice = true → newslice = []) ∧ slices_Concat_string_l1 slices K2_ k newslice v27 = some o ∧ s = ⟨(upd (upd (upd (upd e0 6 (some (lstV znewslice 0 1 newslice.length))) 25 (some (.c (.ro false 1 (slices.map (eSl 1 eStr)))))) 26 (some (I (slices.length : Int)))) 27 (some (I v27))), (upd e0 0 (lstB znewslice 1 (newslice.map eStr))), 1⟩) k' s'') Q) .normal s := fun newslice v27 znewslice hznewslice h s hw => ⟨_, k, hw, Nat.lt_succ_self k, newslice, v27, znewslice, hznewslice, h, rfl⟩
 refine ssr <| un1 (v := (B (decide (v27 < (slices.length : Int))))) rfl <| dnil <| Sv.seq ?_
 refine Sv.cond (b := decide (v27 < (slices.length : Int))) rfl (fun hc3 => ?_) (fun hc3 => ?_)
 ·replace h := ifT hc3 h
  refine Sv.skip <| Sv.seq <| Sv.block <| ssr ?_
  obtain ⟨x_1, hx2, h⟩ := bnd h
  refine un1 (v := (.c (.rop [.ro false 1 (x_1.map eStr)]))) (s_iaddr (e := (eSl 1 eStr)) (xs := slices) rfl rfl hx2) <| un1 (v := (.c (.ro false 1 (x_1.map eStr)))) rfl <| un1 rfl <| dnil <| srg <| un1 rfl <| un1 rfl ?_
  obtain ⟨r_1, hr2, h⟩ := bnd h
  have hz1 : (znewslice && x_1.isEmpty) = true → r_1 = [] := app_nil (z := znewslice) (ys := x_1) hznewslice hr2
  refine un <| a2v rfl (s_app (xs := newslice) (ys := x_1) (e := eStr) (z := znewslice) (b := 0) rfl rfl hznewslice rfl rfl (slc_ro) hr2) (fun h => by cases h) <| un1 rfl <| dnil <| srg <| un1 (v := (I (wi (v27 + 1)))) rfl <| un1 rfl <| dnil ?_
  exact hself r_1 (wi (v27 + 1)) (znewslice && x_1.isEmpty) hz1 h _ (wcn [1] rfl (.cf rfl rfl (.cf rfl rfl (.cf rfl rfl (.cons rfl (.c (lstC_ren rfl (by decide))) .nil)))) (.row (by decide) rfl (fr_map fun _ => rfl) .nil))
 ·replace h := ifF hc3 h
  refine Sv.exit ?_
  exact hK2 newslice znewslice hznewslice h _ (wcn [0] rfl (.cons rfl (.c (lstC_ren rfl (by decide))) .nil) (.row (by decide) rfl (fr_map fun _ => rfl) .nil))
/-- slices.Concat(()string,string) -/
noncomputable def slices_Concat_string (slices : (List TT)) : Option TT :=
 lim fun kk1 => slices_Concat_string_l0 slices (fun (size1 : Int) => 
   (slices_Grow_string size1).bind fun r_ =>
   lim fun kk => slices_Concat_string_l1 slices (fun (newslice1 : TT) => 
     some newslice1) kk r_ 0) kk1 0 0
theorem slices_Concat_string_ok {mL : Int} {slices : (List TT)} {r : TT} (h : slices_Concat_string slices = some r) : ACalls Tryz.prog (GG mL) 69 [(.c (.ro false 1 (slices.map (eSl 1 eStr))))] e0 0 (slices_Concat_string_post r) := by
 refine acalls_of_sv hmix c69 (R := slices_Concat_string_post r) ?_
 unfold slices_Concat_string at h
 refine ssr <| un1 rfl <| dnil <| ssr <| un1 rfl <| dnil <| Sv.seq <| ssr <| un1 rfl <| un1 (v := (I (slices.length : Int))) (s_len (e := (eSl 1 eStr)) (xs := slices) rfl) <| un1 rfl <| dnil <| Sv.block ?_
 obtain ⟨kk1, h⟩ := lim_some h
 refine Sv.weak (wcn [] rfl (.cf rfl rfl (.cf rfl rfl (.cf rfl rfl (.cf rfl rfl (.cf rfl rfl .nil))))) .nil) (slices_Concat_string_l0_ok h ?_ (fun s hs => hs))
 ·intro size1 h _ hw1
  refine Sv.weak hw1 <| ssr <| un1 rfl ?_
  obtain ⟨r_, hr1, h⟩ := bnd h
  refine un <| ac_gen (bs := []) («as» := [(.c (.ro true 1 [])), (I size1)]) (h2 := _) (h1 := e0) (slices_Grow_string_ok hr1) rfl (.cons (avAs_free rfl) (.cons (avAs_free rfl) .nil)) (hsub_refl _) (.nil _) (fun _ => rfl) (by decide) (by decide) (.cons (avAs_free rfl) (.cons (avAs_free rfl) .nil)) .nil ?_
  rintro _ _ _ hn ⟨z_, hz_, rfl, rfl, rfl⟩
  refine ⟨.inl rfl, (upd (rem [] _) 0 (lstB z_ 1 (r_.map eStr))), fun hbd => (m3_cons (m3_row rfl (fr_map fun _ => rfl)) (m3_rem (in_nil _) (.cons (by decide) .nil) hbd)), (lstV z_ 0 1 r_.length), 1, (by cases z_ <;> rfl), rfl, ?_⟩
  refine un1 rfl <| dnil <| Sv.seq <| ssr <| un1 rfl <| un1 (v := (I (slices.length : Int))) (s_len (e := (eSl 1 eStr)) (xs := slices) rfl) <| un1 rfl <| dnil <| Sv.block ?_
  obtain ⟨kk, h⟩ := lim_some h
  refine Sv.weak (wcn [0] rfl (.cf rfl rfl (.cf rfl rfl (.cf rfl rfl (.cons rfl (.c (lstC_ren rfl (by decide))) .nil)))) (.row (by decide) rfl (fr_map fun _ => rfl) .nil)) (slices_Concat_string_l1_ok hz_ h ?_ (fun s hs => hs))
  ·intro newslice1 znewslice1 hznewslice1 h _ hw2
   refine Sv.weak hw2 <| ssr <| un1 rfl <| un1 rfl <| dnil <| Sv.ret ?_
   replace h := Option.some.inj h
   subst h
   exact ⟨_, .refl _, _, rfl, ⟨upd e0 0 (some (lstV znewslice1 0 1 newslice1.length)), (upd e0 0 (lstB znewslice1 1 (newslice1.map eStr))), 1⟩, (lstV znewslice1 0 1 newslice1.length), weak_canon2 [0] [0] (by decide) (by decide) nlz (.cons (by decide) .nil) (.cons rfl (.c (lstC_ren rfl (by decide))) .nil) (.row (by decide) rfl (fr_map fun _ => rfl) .nil), rfl, znewslice1, hznewslice1, rfl, rfl, rfl⟩
def a40_c0 : ACode := (.seq (.region [(oP 58 (.load true 8 (.tmp 6))), ⟨none, (.store 8 (.tmp 4) (.tmp 58)), none⟩, ⟨(some 5), (.mov (kI 0)), none⟩])
 .ret)
def a40_c1 : ACode := (.seq (.region [(mV 72 11), (oP 73 (.call 24 [(.tmp 72)])), (oP 74 (.faddr 3 (.tmp 6))), ⟨none, (.store 1 (.tmp 74) (.tmp 73)), none⟩])
 (.seq (.region [(oP 75 (.load true 8 (.tmp 6))), ⟨none, (.store 8 (.tmp 4) (.tmp 75)), none⟩, ⟨(some 5), (.mov (kI 0)), none⟩])
 .ret))
def a40 : AFunc := ⟨2, [(.cell true 8 4), (.tmp 5)], (.seq (.region [(oP 2 (.box (.tmp 0))), ⟨(some 4), (.box (.const (.agg [(.str []), (.str []), (.val (.int .i64 0)), (.ro true 1 []), (.str []), (.val (.bool false)), (.str []), (.val (.bool false))]))), none⟩, ⟨(some 5), (.mov (kI 0)), none⟩])
 (.seq (.region [(oP 13 (.faddr 0 (.tmp 2))), (oP 14 (.load false 1 (.tmp 13))), (oP 15 (.faddr 1 (.tmp 2))), (oP 16 (.load false 1 (.tmp 15))), (oP 17 (.faddr 2 (.tmp 2))), (oP 18 (.load false 1 (.tmp 17))), ⟨(some 19), (.build [(.str []), (.str []), (.val (.int .i64 0)), (.ro true 1 []), (.str []), (.val (.bool false)), (.str []), (.val (.bool false))] [(0, (1, (.tmp 14))), (1, (1, (.tmp 16))), (2, (1, (.tmp 18)))]), none⟩, ⟨(some 6), (.box (.const (.agg [(.str []), (.str []), (.val (.int .i64 0)), (.ro true 1 []), (.str []), (.val (.bool false)), (.str []), (.val (.bool false))]))), none⟩, ⟨none, (.store 8 (.tmp 6) (.tmp 19)), none⟩])
 (.seq (.region [(mV 21 1), (oP 22 (.call 21 [(.tmp 6), (.tmp 21)])), (mV 20 22), (oP 23 (.ext (.tmp 20) 0)), (oP 24 (.ext (.tmp 20) 1)), (mV 7 23), (mV 8 24)])
 (.seq (.region [(mV 26 7), ⟨(some 27), (.call 18 [(.tmp 26), (.const (.c (.str [47])))]), none⟩, (mV 25 27), (oP 28 (.ext (.tmp 25) 0)), (oP 29 (.ext (.tmp 25) 1)), (mV 9 28), (mV 10 29)])
 (.seq (.region [(mV 31 9), (oP 32 (.call 22 [(.tmp 31)])), (mV 30 32), (oP 33 (.ext (.tmp 30) 0)), (oP 34 (.ext (.tmp 30) 1)), (mV 11 33), (mV 12 34)])
 (.seq (.block 0 (.seq (.region [(mV 36 8), (oP 37 (.un .not (.tmp 36))), (mV 38 37), ⟨(some 39), (.mov (.tmp 12)), (some (38, false))⟩, ⟨(some 40), (.un .not (.tmp 39)), (some (38, false))⟩, ⟨(some 41), (.pick (.tmp 38) (.const (.c (.val (.bool true)))) (.tmp 40)), none⟩, (mV 35 41)])
 (.cond (.tmp 35) (.seq (.region [(oP 42 (.build [(.str []), (.str []), (.val (.int .i64 0)), (.ro true 1 []), (.str []), (.val (.bool false)), (.str []), (.val (.bool false))] [])), ⟨none, (.store 8 (.tmp 4) (.tmp 42)), none⟩, ⟨(some 5), (.mov (kI 3)), none⟩])
 .ret) (.seq (.region [(mV 44 7), ⟨(some 45), (.bin .eql (.tmp 44) (.const (.c (.str [])))), none⟩, (mV 43 45)])
 (.cond (.tmp 43) (.seq (.region [(oP 46 (.faddr 3 (.tmp 2))), (oP 47 (.load false 1 (.tmp 46))), (oP 48 (.faddr 3 (.tmp 6))), ⟨none, (.store 1 (.tmp 48) (.tmp 47)), none⟩])
 (.seq (.seq (.region [(oP 49 (.faddr 5 (.tmp 6))), (oP 50 (.load false 1 (.tmp 49))), (oP 51 (.un .not (.tmp 50)))])
 (.cond (.tmp 51) (.drawn (.alt [((oP 52 (.faddr 4 (.tmp 2))), (0, 0)), ((oP 53 (.load false 1 (.tmp 52))), (0, 1)), ((oP 54 (.faddr 5 (.tmp 2))), (0, 2)), ((oP 56 (.faddr 4 (.tmp 6))), (0, 4))] (.fin [((oP 55 (.load false 1 (.tmp 54))), (1, 3)), (⟨none, (.store 1 (.tmp 56) (.tmp 53)), none⟩, (2, 5)), ((oP 57 (.faddr 5 (.tmp 6))), (0, 6)), (⟨none, (.store 1 (.tmp 57) (.tmp 55)), none⟩, (2, 7))]) (.fin [(⟨none, (.store 1 (.tmp 56) (.tmp 53)), none⟩, (2, 5)), ((oP 55 (.load false 1 (.tmp 54))), (1, 3)), ((oP 57 (.faddr 5 (.tmp 6))), (0, 6)), (⟨none, (.store 1 (.tmp 57) (.tmp 55)), none⟩, (2, 7))]))) .skip))
 a40_c0)) (.seq (.region [(mV 60 10), (oP 61 (.un .not (.tmp 60))), (mV 59 61)])
 (.cond (.tmp 59) (.region [(oP 62 (.faddr 3 (.tmp 2))), (oP 63 (.load false 1 (.tmp 62))), (oP 64 (.faddr 3 (.tmp 2))), (oP 65 (.load false 1 (.tmp 64))), (oP 66 (.len (.tmp 65))), ⟨(some 67), (.bin .sub (.tmp 66) (kI 1)), none⟩, (oP 68 (.slSl 1 (.tmp 63) none (some (.tmp 67)) none)), (mV 69 11), (oP 70 (.bslice 1 [(.ro true 1 [])] 2 [(0, (.tmp 68)), (1, (.tmp 69))])), (oP 71 (.call 69 [(.tmp 70)])), (mV 11 71)]) .skip)))))))
 a40_c1))))))⟩
set_option maxRecDepth 100000 in
theorem c40 : compFunc Tryz.prog 40 = some a40 := by kernel_rfl
def url_beside_post (r : (TJUrl × Int)) : AV → Heap → Nat → Prop := fun v h' n' => v = (.tup [(.agg [.str r.1.Scheme, .str r.1.Host, cI r.1.Port, .ro false 1 (r.1.Path.map eStr), .str r.1.Query, cB r.1.Asks, .str r.1.Fragment, cB r.1.Points]), (I r.2)]) ∧ (h' = e0) ∧ n' = 0
noncomputable def url_beside_j3 (r_ : (Tx × Bool × TJUrl)) (u3 : TT) (l_ : TT) : Option (TJUrl × Int) :=
 (url_tidy l_).bind fun r_3 =>
 some ((⟨r_.2.2.Scheme, r_.2.2.Host, r_.2.2.Port, r_3, r_.2.2.Query, r_.2.2.Asks, r_.2.2.Fragment, r_.2.2.Points⟩ : TJUrl), 0)
theorem url_beside_j3_ok {mL : Int} {r_ : (Tx × Bool × TJUrl)} {u3 : TT} {l_ : TT} {zu3 : Bool} (hzu3 : zu3 = true → u3 = []) {zl : Bool} (hzl : zl = true → l_ = []) {o : (TJUrl × Int)} (h : url_beside_j3 r_ u3 l_ = some o) :
  Sv Tryz.prog (GG mL) 0 a40_c1 (Ends a40.results 0 (url_beside_post o)) ⟨(upd (upd (upd e0 4 (some (.c (.ref 0 8 0 0)))) 6 (some (.c (.ref 1 8 0 0)))) 11 (some (lstV zl 3 1 l_.length))), (upd (upd (upd (upd e0 0 (some (.cells 8 [[.str [], .str [], cI 0, .ro true 1 [], .str [], cB false, .str [], cB false]]))) 1 (some (.cells 8 [[.str r_.2.2.Scheme, .str r_.2.2.Host, cI r_.2.2.Port, lstC zu3 2 1 u3.length, .str r_.2.2.Query, cB r_.2.2.Asks, .str r_.2.2.Fragment, cB r_.2.2.Points]]))) 2 (lstB zu3 1 (u3.map eStr))) 3 (lstB zl 1 (l_.map eStr))), 4⟩ := by
 unfold url_beside_j3 at h
 refine ssr <| un1 rfl ?_
 obtain ⟨r_3, hr4, h⟩ := bnd h
 refine un <| ac_gen (bs := []) («as» := [(.c (.ro false 1 (l_.map eStr)))]) (h2 := (upd _ 3 none)) (h1 := e0) (url_tidy_ok hr4) rfl (.cons (.c (lstC_ro (es := List.map eStr l_) rfl (List.length_map eStr).symm (map_nil_of hzl) (gone rfl) (fr_map fun _ => rfl))) .nil) (hsub_none (hsub_refl _)) (.nil _) (fun _ => rfl) (by decide) (by decide) (.cons (avAs_free rfl) .nil) .nil ?_
 rintro _ _ _ hn ⟨z_2, hz_2, rfl, rfl, rfl⟩
 refine ⟨.inr ⟨(by cases z_2 <;> rfl), (.row (cl_map fun _ => rfl) .nil)⟩, (upd (rem [] _) 4 (lstB z_2 1 (r_3.map eStr))), fun hbd => (m3_cons (m3_row rfl (fr_map fun _ => rfl)) (m3_rem (in_nil _) (.cons (by decide) .nil) hbd)), (lstV z_2 4 1 r_3.length), 5, (by cases z_2 <;> rfl), rfl, ?_⟩
 refine un1 (v := (.c (.ref 1 8 0 3))) rfl <| un <| a2n (h' := upd _ 1 (some (.cells 8 [[.str r_.2.2.Scheme, .str r_.2.2.Host, cI r_.2.2.Port, lstC z_2 4 1 r_3.length, .str r_.2.2.Query, cB r_.2.2.Asks, .str r_.2.2.Fragment, cB r_.2.2.Points]]))) (n' := 5) rfl rfl (fun h => by cases h) <| dnil <| ssr <| un1 (v := (.agg [.str r_.2.2.Scheme, .str r_.2.2.Host, cI r_.2.2.Port, lstC z_2 4 1 r_3.length, .str r_.2.2.Query, cB r_.2.2.Asks, .str r_.2.2.Fragment, cB r_.2.2.Points])) rfl <| un <| a2n (h' := upd _ 0 (some (.cells 8 [[.str r_.2.2.Scheme, .str r_.2.2.Host, cI r_.2.2.Port, lstC z_2 4 1 r_3.length, .str r_.2.2.Query, cB r_.2.2.Asks, .str r_.2.2.Fragment, cB r_.2.2.Points]]))) (n' := 5) rfl rfl (fun h => by cases h) <| un1 rfl <| dnil <| Sv.ret ?_
 replace h := Option.some.inj h
 subst h
 exact ⟨_, .refl _, _, rfl, ⟨upd e0 0 (some (.tup [(.agg [.str r_.2.2.Scheme, .str r_.2.2.Host, cI r_.2.2.Port, .ro false 1 (r_3.map eStr), .str r_.2.2.Query, cB r_.2.2.Asks, .str r_.2.2.Fragment, cB r_.2.2.Points]), (I 0)])), e0, 0⟩, (.tup [(.agg [.str r_.2.2.Scheme, .str r_.2.2.Host, cI r_.2.2.Port, .ro false 1 (r_3.map eStr), .str r_.2.2.Query, cB r_.2.2.Asks, .str r_.2.2.Fragment, cB r_.2.2.Points]), (I 0)]), weak_canon [] rfl List.nodup_nil (Nat.le_refl _) nlz (.cons rfl (avAs_tup (.cons (avAs_agg (.sm rfl (.sm rfl (.sm rfl (.cons (lstC_ro (es := List.map eStr r_3) rfl (List.length_map eStr).symm (map_nil_of hz_2) (fun b x hx => not_in (bs := []) rfl b (((.nil) : HLt _ _) b x hx)) (fr_map fun _ => rfl)) (.sm rfl (.sm rfl (.sm rfl (.sm rfl .nil))))))))) (.cons (avAs_free rfl) .nil))) .nil) .nil, rfl, rfl, rfl, rfl⟩
abbrev url_beside_q0 (mL : Int) (o : (TJUrl × Int)) : AExit → St → Prop := AThen (Sv Tryz.prog (GG mL) 0 a40_c1 (Ends a40.results 0 (url_beside_post o))) (Ends a40.results 0 (url_beside_post o))
abbrev url_beside_q1 (mL : Int) (o : (TJUrl × Int)) : AExit → St → Prop := ABlock 0 (url_beside_q0 mL o)
noncomputable def url_beside_j4 (r_ : (Tx × Bool × TJUrl)) (base : TJUrl) (u4 : Tx) (u5 : Bool) : Option (TJUrl × Int) :=
 some ((⟨r_.2.2.Scheme, r_.2.2.Host, r_.2.2.Port, base.Path, u4, u5, r_.2.2.Fragment, r_.2.2.Points⟩ : TJUrl), 0)
theorem url_beside_j4_ok {mL : Int} {r_ : (Tx × Bool × TJUrl)} {base : TJUrl} {u4 : Tx} {u5 : Bool} {o : (TJUrl × Int)} (h : url_beside_j4 r_ base u4 u5 = some o) :
  Sv Tryz.prog (GG mL) 0 a40_c0 (url_beside_q1 mL o) ⟨(upd (upd e0 4 (some (.c (.ref 0 8 0 0)))) 6 (some (.c (.ref 1 8 0 0)))), (upd (upd e0 0 (some (.cells 8 [[.str [], .str [], cI 0, .ro true 1 [], .str [], cB false, .str [], cB false]]))) 1 (some (.cells 8 [[.str r_.2.2.Scheme, .str r_.2.2.Host, cI r_.2.2.Port, .ro false 1 (base.Path.map eStr), .str u4, cB u5, .str r_.2.2.Fragment, cB r_.2.2.Points]]))), 2⟩ := by
 unfold url_beside_j4 at h
 refine ssr <| un1 (v := (.agg [.str r_.2.2.Scheme, .str r_.2.2.Host, cI r_.2.2.Port, .ro false 1 (base.Path.map eStr), .str u4, cB u5, .str r_.2.2.Fragment, cB r_.2.2.Points])) rfl <| un <| a2n (h' := upd _ 0 (some (.cells 8 [[.str r_.2.2.Scheme, .str r_.2.2.Host, cI r_.2.2.Port, .ro false 1 (base.Path.map eStr), .str u4, cB u5, .str r_.2.2.Fragment, cB r_.2.2.Points]]))) (n' := 2) rfl rfl (fun h => by cases h) <| un1 rfl <| dnil <| Sv.ret ?_
 replace h := Option.some.inj h
 subst h
 exact ⟨_, .refl _, _, rfl, ⟨upd e0 0 (some (.tup [(.agg [.str r_.2.2.Scheme, .str r_.2.2.Host, cI r_.2.2.Port, .ro false 1 (base.Path.map eStr), .str u4, cB u5, .str r_.2.2.Fragment, cB r_.2.2.Points]), (I 0)])), e0, 0⟩, (.tup [(.agg [.str r_.2.2.Scheme, .str r_.2.2.Host, cI r_.2.2.Port, .ro false 1 (base.Path.map eStr), .str u4, cB u5, .str r_.2.2.Fragment, cB r_.2.2.Points]), (I 0)]), weak_canon [] rfl List.nodup_nil (Nat.le_refl _) nlz (.cons rfl (avAs_tup (.cons (avAs_free rfl) (.cons (avAs_free rfl) .nil))) .nil) .nil, rfl, rfl, rfl, rfl⟩
/-- clerestory/url.beside -/
noncomputable def url_beside (base : TJUrl) (ref : Tx) : Option (TJUrl × Int) :=
 (url_tail1 (⟨base.Scheme, base.Host, base.Port, [], [], false, [], false⟩ : TJUrl) ref).bind fun r_ =>
 (strings_CutPrefix r_.1 [47]).bind fun r_1 =>
 (url_segments r_1.1).bind fun r_2 =>
 if ((!r_.2.1) || (!r_2.2)) then
  some ((⟨[], [], 0, [], [], false, [], false⟩ : TJUrl), 3)
 else
  if decide (r_.1 = []) then
   if (!r_.2.2.Asks) then
    url_beside_j4 r_ base base.Query base.Asks
   else
    url_beside_j4 r_ base r_.2.2.Query r_.2.2.Asks
  else
   if (!r_1.2) then
    (sub? base.Path 0 (wi ((base.Path.length : Int) - 1))).bind fun r_4 =>
    (slices_Concat_string [r_4, r_2.1]).bind fun r_5 =>
    url_beside_j3 r_ r_.2.2.Path r_5
   else
    url_beside_j3 r_ r_.2.2.Path r_2.1
theorem url_beside_ok {mL : Int} {base : TJUrl} {ref : Tx} {r : (TJUrl × Int)} (h : url_beside base ref = some r) : CPure Tryz.prog (GG mL) 40 [(.agg [.str base.Scheme, .str base.Host, cI base.Port, .ro false 1 (base.Path.map eStr), .str base.Query, cB base.Asks, .str base.Fragment, cB base.Points]), (S ref)] (.tup [(.agg [.str r.1.Scheme, .str r.1.Host, cI r.1.Port, .ro false 1 (r.1.Path.map eStr), .str r.1.Query, cB r.1.Asks, .str r.1.Fragment, cB r.1.Points]), (I r.2)]) := by
 refine acalls_of_sv hmix c40 (R := url_beside_post r) ?_
 unfold url_beside at h
 refine ssr <| un <| a2v (v := (.c (.ref 0 8 0 0))) (h' := upd _ 0 (some (.cells 8 [[.str base.Scheme, .str base.Host, cI base.Port, .ro false 1 (base.Path.map eStr), .str base.Query, cB base.Asks, .str base.Fragment, cB base.Points]]))) (n' := 1) rfl rfl (fun h => by cases h) <| un <| a2v (v := (.c (.ref 1 8 0 0))) (h' := upd _ 1 (some (.cells 8 [[.str [], .str [], cI 0, .ro true 1 [], .str [], cB false, .str [], cB false]]))) (n' := 2) rfl rfl (fun h => by cases h) <| un1 rfl <| dnil <| ssr <| un1 (v := (.c (.ref 0 8 0 0))) rfl <| un1 (v := (S base.Scheme)) rfl <| un1 (v := (.c (.ref 0 8 0 1))) rfl <| un1 (v := (S base.Host)) rfl <| un1 (v := (.c (.ref 0 8 0 2))) rfl <| un1 (v := (I base.Port)) rfl <| un1 (v := (.agg [.str base.Scheme, .str base.Host, cI base.Port, .ro true 1 [], .str [], cB false, .str [], cB false])) rfl <| un <| a2v (v := (.c (.ref 2 8 0 0))) (h' := upd _ 2 (some (.cells 8 [[.str [], .str [], cI 0, .ro true 1 [], .str [], cB false, .str [], cB false]]))) (n' := 3) rfl rfl (fun h => by cases h) <| un <| a2n (h' := upd _ 2 (some (.cells 8 [[.str base.Scheme, .str base.Host, cI base.Port, .ro true 1 [], .str [], cB false, .str [], cB false]]))) (n' := 3) rfl rfl (fun h => by cases h) <| dnil <| ssr <| un1 rfl <| dweak (show Weak 0 _ ⟨(upd (upd (upd (upd (upd (upd (upd (upd (upd (upd (upd (upd (upd (upd e0 0 (some (.agg [.str base.Scheme, .str base.Host, cI base.Port, .ro false 1 (base.Path.map eStr), .str base.Query, cB base.Asks, .str base.Fragment, cB base.Points]))) 1 (some (S ref))) 2 (some (.c (.ref 0 8 0 0)))) 4 (some (.c (.ref 1 8 0 0)))) 5 (some (I 0))) 6 (some (.c (.ref 2 8 0 0)))) 13 (some (.c (.ref 0 8 0 0)))) 14 (some (S base.Scheme))) 15 (some (.c (.ref 0 8 0 1)))) 16 (some (S base.Host))) 17 (some (.c (.ref 0 8 0 2)))) 18 (some (I base.Port))) 19 (some (.agg [.str base.Scheme, .str base.Host, cI base.Port, .ro true 1 [], .str [], cB false, .str [], cB false]))) 21 (some (S ref))), (upd (upd (upd (upd e0 0 (some (.cells 8 [[.str base.Scheme, .str base.Host, cI base.Port, .ro false 1 (base.Path.map eStr), .str base.Query, cB base.Asks, .str base.Fragment, cB base.Points]]))) 1 (some (.cells 8 [[.str [], .str [], cI 0, .ro true 1 [], .str [], cB false, .str [], cB false]]))) 2 (some (.cells 8 [[.str base.Scheme, .str base.Host, cI base.Port, lstC true 3 1 ([] : TT).length, .str [], cB false, .str [], cB false]]))) 3 (lstB true 1 (([] : TT).map eStr))), 4⟩ from (wcn [0, 1, 2, 1003] rfl (.cf rfl rfl (.cf rfl rfl (.cf rfl rfl (.cons rfl (.c (.ref rfl (by decide))) (.cf rfl rfl (.cons rfl (.c (.ref rfl (by decide))) (.cf rfl rfl (.cons rfl (.c (.ref rfl (by decide))) (.cons rfl (.c (.ref rfl (by decide))) (.cf rfl rfl (.cons rfl (.c (.ref rfl (by decide))) (.cons rfl (.c (.ref rfl (by decide))) (.cf rfl rfl (.cf rfl rfl .nil)))))))))))))) (.non (by decide) (.box (by decide) rfl (blkAs_cells (.sm rfl (.sm rfl (.sm rfl (.sm rfl (.sm rfl (.sm rfl (.sm rfl (.sm rfl .nil))))))))) (.box (by decide) rfl (blkAs_cells (.sm rfl (.sm rfl (.sm rfl (.sm rfl (.sm rfl (.sm rfl (.sm rfl (.sm rfl .nil))))))))) (.box (by decide) rfl (blkAs_cells (.sm rfl (.sm rfl (.sm rfl (.sm rfl (.sm rfl (.sm rfl (.sm rfl (.sm rfl .nil))))))))) .nil)))))) ?_
 obtain ⟨r_, hr1, h⟩ := bnd h
 refine un <| ac_gen (bs := [2, 3]) («as» := [(.c (.ref 2 8 0 0)), (S ref)]) (h2 := _) (h1 := (upd (upd e0 2 (some (.cells 8 [[.str base.Scheme, .str base.Host, cI base.Port, lstC true 3 1 ([] : TT).length, .str [], cB false, .str [], cB false]]))) 3 (lstB true 1 (([] : TT).map eStr)))) (url_tail1_ok (fun _ => rfl) hr1) rfl (.cons (.c (.ref rfl (by decide))) (.cons (avAs_free rfl) .nil)) (hsub_refl _) (.cons rfl (.cons rfl (.nil _))) (fun h => by cases h) (by decide) (by decide) (.cons (.c (.ref rfl (by decide))) (.cons (avAs_free rfl) .nil)) (.row (by decide) rfl (fr_map fun _ => rfl) (.box (by decide) rfl (blkAs_cells (.sm rfl (.sm rfl (.sm rfl (.cons (lstC_ren rfl (by decide)) (.sm rfl (.sm rfl (.sm rfl (.sm rfl .nil))))))))) .nil)) ?_
 rintro _ _ _ hn ⟨z_, hz_, rfl, rfl, rfl⟩
 refine ⟨.inl rfl, (upd (upd (rem [2, 3] _) 2 (some (.cells 8 [[.str r_.2.2.Scheme, .str r_.2.2.Host, cI r_.2.2.Port, lstC z_ 4 1 r_.2.2.Path.length, .str r_.2.2.Query, cB r_.2.2.Asks, .str r_.2.2.Fragment, cB r_.2.2.Points]]))) 4 (lstB z_ 1 (r_.2.2.Path.map eStr))), fun hbd => (m3_cons (m3_row rfl (fr_map fun _ => rfl)) (m3_cons (m3_box rfl (by cases z_ <;> rfl)) (m3_rem (in_cons (by decide) (in_cons (by decide) (in_nil _))) (.cons (by decide) (.cons (by decide) .nil)) hbd))), (.tup [(S r_.1), (B r_.2.1)]), 5, (by cases z_ <;> rfl), rfl, ?_⟩
 refine un1 rfl <| un1 (v := (S r_.1)) rfl <| un1 (v := (B r_.2.1)) rfl <| un1 rfl <| un1 rfl <| dnil <| ssr <| un1 rfl ?_
 obtain ⟨r_1, hr2, h⟩ := bnd h
 refine un <| ac_pure (strings_CutPrefix_ok hr2) rfl rfl rfl <| un1 rfl <| un1 (v := (S r_1.1)) rfl <| un1 (v := (B r_1.2)) rfl <| un1 rfl <| un1 rfl <| dnil <| ssr <| un1 rfl ?_
 obtain ⟨r_2, hr3, h⟩ := bnd h
 refine un <| ac_gen (bs := []) («as» := [(S r_1.1)]) (h2 := _) (h1 := e0) (url_segments_ok hr3) rfl (.cons (avAs_free rfl) .nil) (hsub_refl _) (.nil _) (fun _ => rfl) (by decide) (by decide) (.cons (avAs_free rfl) .nil) .nil ?_
 rintro _ _ _ hn ⟨z_1, hz_1, rfl, rfl, rfl⟩
 refine ⟨.inl rfl, (upd (rem [] _) 5 (lstB z_1 1 (r_2.1.map eStr))), fun hbd => (m3_cons (m3_row rfl (fr_map fun _ => rfl)) (m3_rem (in_nil _) (.cons (by decide) .nil) hbd)), (.tup [(lstV z_1 5 1 r_2.1.length), (B r_2.2)]), 6, (by cases z_1 <;> rfl), rfl, ?_⟩
 refine un1 rfl <| un1 (v := (lstV z_1 5 1 r_2.1.length)) rfl <| un1 (v := (B r_2.2)) rfl <| un1 rfl <| un1 rfl <| dnil <| Sv.seq <| Sv.block <| ssr <| un1 rfl <| un1 (v := (B (!r_.2.1))) rfl <| un1 rfl ?_
 refine gjoin 3 (d := 41) (v := (B ((!r_.2.1) || (!r_2.2)))) (fun X hX => ?_) ?_
 ·refine split2 (fun hc1 => ?_) (fun hc1 => ?_)
  ·refine gs rfl rfl <| gs rfl rfl <| un1 (v := (B true)) rfl <| dnil ?_
   exact hX _ (.putEq (by rw [hc1]; rfl) (.skip _ _ (.skip _ _ (.putEq (by rw [hc1]) (.refl _)) rfl) rfl))
  ·refine gt rfl <| a1 rfl <| gt rfl <| a1 (v := (B (!r_2.2))) rfl <| un1 (v := (B (!r_2.2))) rfl <| dnil ?_
   exact hX _ (.putEq (by rw [hc1]; rfl) (.skip _ _ (.skip _ _ (.putEq (by rw [hc1]) (.refl _)) rfl) rfl))
 refine un1 rfl <| dnil ?_
 refine Sv.cond (b := ((!r_.2.1) || (!r_2.2))) rfl (fun hc2 => ?_) (fun hc2 => ?_)
 ·replace h := ifT hc2 h
  refine ssr <| un1 (v := (.agg [.str [], .str [], cI 0, .ro true 1 [], .str [], cB false, .str [], cB false])) rfl <| un <| a2n (h' := upd _ 1 (some (.cells 8 [[.str [], .str [], cI 0, .ro true 1 [], .str [], cB false, .str [], cB false]]))) (n' := 6) rfl rfl (fun h => by cases h) <| un1 rfl <| dnil <| Sv.ret ?_
  replace h := Option.some.inj h
  subst h
  exact ⟨_, .refl _, _, rfl, ⟨upd e0 0 (some (.tup [(.agg [.str [], .str [], cI 0, .ro false 1 (([] : TT).map eStr), .str [], cB false, .str [], cB false]), (I 3)])), e0, 0⟩, (.tup [(.agg [.str [], .str [], cI 0, .ro false 1 (([] : TT).map eStr), .str [], cB false, .str [], cB false]), (I 3)]), weak_canon [] rfl List.nodup_nil (Nat.le_refl _) nlz (.cons rfl (avAs_tup (.cons (avAs_agg (.sm rfl (.sm rfl (.sm rfl (.cons .nil (.sm rfl (.sm rfl (.sm rfl (.sm rfl .nil))))))))) (.cons (avAs_free rfl) .nil))) .nil) .nil, rfl, rfl, rfl, rfl⟩
 ·replace h := ifF hc2 h
  refine ssr <| un1 rfl <| un1 (v := (B (decide (r_.1 = [])))) rfl <| un1 rfl <| dnil ?_
  refine Sv.cond (b := decide (r_.1 = [])) rfl (fun hc3 => ?_) (fun hc3 => ?_)
  ·replace h := ifT hc3 h
   refine ssr <| un1 (v := (.c (.ref 0 8 0 3))) rfl <| un1 (v := (.c (.ro false 1 (base.Path.map eStr)))) rfl <| un1 (v := (.c (.ref 2 8 0 3))) rfl <| un <| a2n (h' := upd _ 2 (some (.cells 8 [[.str r_.2.2.Scheme, .str r_.2.2.Host, cI r_.2.2.Port, .ro false 1 (base.Path.map eStr), .str r_.2.2.Query, cB r_.2.2.Asks, .str r_.2.2.Fragment, cB r_.2.2.Points]]))) (n' := 6) rfl rfl (fun h => by cases h) <| dnil <| Sv.seq <| ssr <| un1 (v := (.c (.ref 2 8 0 5))) rfl <| un1 (v := (B r_.2.2.Asks)) rfl <| un1 (v := (B (!r_.2.2.Asks))) rfl <| dnil ?_
   refine Sv.cond (b := (!r_.2.2.Asks)) rfl (fun hc4 => ?_) (fun hc4 => ?_)
   ·replace h := ifT hc4 h
    refine Sv.drawn2 <| un1 (v := (.c (.ref 0 8 0 4))) rfl <| un1 (v := (S base.Query)) rfl <| un1 (v := (.c (.ref 0 8 0 5))) rfl <| un1 (v := (.c (.ref 2 8 0 4))) rfl <| dnil ?_
    refine ⟨?_, ?_⟩
    ·refine un1 (v := (B base.Asks)) rfl <| un <| a2n (h' := upd _ 2 (some (.cells 8 [[.str r_.2.2.Scheme, .str r_.2.2.Host, cI r_.2.2.Port, .ro false 1 (base.Path.map eStr), .str base.Query, cB r_.2.2.Asks, .str r_.2.2.Fragment, cB r_.2.2.Points]]))) (n' := 6) rfl rfl (fun h => by cases h) <| un1 (v := (.c (.ref 2 8 0 5))) rfl <| un <| a2n (h' := upd _ 2 (some (.cells 8 [[.str r_.2.2.Scheme, .str r_.2.2.Host, cI r_.2.2.Port, .ro false 1 (base.Path.map eStr), .str base.Query, cB base.Asks, .str r_.2.2.Fragment, cB r_.2.2.Points]]))) (n' := 6) rfl rfl (fun h => by cases h) <| dnil ?_
     exact Sv.weak (wcn [1, 2] rfl (.cons rfl (.c (.ref rfl (by decide))) (.cons rfl (.c (.ref rfl (by decide))) .nil)) (.box (by decide) rfl (blkAs_cells (.sm rfl (.sm rfl (.sm rfl (.sm rfl (.sm rfl (.sm rfl (.sm rfl (.sm rfl .nil))))))))) (.box (by decide) rfl (blkAs_cells (.sm rfl (.sm rfl (.sm rfl (.sm rfl (.sm rfl (.sm rfl (.sm rfl (.sm rfl .nil))))))))) .nil))) (url_beside_j4_ok h)
    ·refine un <| a2n (h' := upd _ 2 (some (.cells 8 [[.str r_.2.2.Scheme, .str r_.2.2.Host, cI r_.2.2.Port, .ro false 1 (base.Path.map eStr), .str base.Query, cB r_.2.2.Asks, .str r_.2.2.Fragment, cB r_.2.2.Points]]))) (n' := 6) rfl rfl (fun h => by cases h) <| un1 (v := (B base.Asks)) rfl <| un1 (v := (.c (.ref 2 8 0 5))) rfl <| un <| a2n (h' := upd _ 2 (some (.cells 8 [[.str r_.2.2.Scheme, .str r_.2.2.Host, cI r_.2.2.Port, .ro false 1 (base.Path.map eStr), .str base.Query, cB base.Asks, .str r_.2.2.Fragment, cB r_.2.2.Points]]))) (n' := 6) rfl rfl (fun h => by cases h) <| dnil ?_
     exact Sv.weak (wcn [1, 2] rfl (.cons rfl (.c (.ref rfl (by decide))) (.cons rfl (.c (.ref rfl (by decide))) .nil)) (.box (by decide) rfl (blkAs_cells (.sm rfl (.sm rfl (.sm rfl (.sm rfl (.sm rfl (.sm rfl (.sm rfl (.sm rfl .nil))))))))) (.box (by decide) rfl (blkAs_cells (.sm rfl (.sm rfl (.sm rfl (.sm rfl (.sm rfl (.sm rfl (.sm rfl (.sm rfl .nil))))))))) .nil))) (url_beside_j4_ok h)
   ·replace h := ifF hc4 h
    refine Sv.skip ?_
    exact Sv.weak (wcn [1, 2] rfl (.cons rfl (.c (.ref rfl (by decide))) (.cons rfl (.c (.ref rfl (by decide))) .nil)) (.box (by decide) rfl (blkAs_cells (.sm rfl (.sm rfl (.sm rfl (.sm rfl (.sm rfl (.sm rfl (.sm rfl (.sm rfl .nil))))))))) (.box (by decide) rfl (blkAs_cells (.sm rfl (.sm rfl (.sm rfl (.sm rfl (.sm rfl (.sm rfl (.sm rfl (.sm rfl .nil))))))))) .nil))) (url_beside_j4_ok h)
  ·replace h := ifF hc3 h
   refine ssr <| un1 rfl <| un1 (v := (B (!r_1.2))) rfl <| un1 rfl <| dnil ?_
   refine Sv.cond (b := (!r_1.2)) rfl (fun hc5 => ?_) (fun hc5 => ?_)
   ·replace h := ifT hc5 h
    refine srg <| un1 (v := (.c (.ref 0 8 0 3))) rfl <| un1 (v := (.c (.ro false 1 (base.Path.map eStr)))) rfl <| un1 (v := (.c (.ref 0 8 0 3))) rfl <| un1 (v := (.c (.ro false 1 (base.Path.map eStr)))) rfl <| un1 (v := (I (base.Path.length : Int))) (s_len (e := eStr) (xs := base.Path) rfl) <| un1 (v := (I (wi ((base.Path.length : Int) - 1)))) rfl ?_
    obtain ⟨r_4, hx1, h⟩ := bnd h
    refine un1 (v := (.c (.ro false 1 (r_4.map eStr)))) (s_slSl (e := eStr) rfl rfl rfl hx1) <| un1 rfl <| dweak (show Weak 0 _ ⟨(upd (upd (upd (upd (upd (upd (upd (upd (upd (upd (upd (upd (upd (upd (upd (upd (upd (upd (upd (upd (upd (upd (upd (upd (upd (upd (upd (upd (upd (upd (upd (upd (upd (upd (upd (upd (upd (upd (upd (upd (upd (upd (upd (upd (upd (upd (upd (upd (upd (upd (upd (upd (upd e0 0 (some (.agg [.str base.Scheme, .str base.Host, cI base.Port, .ro false 1 (base.Path.map eStr), .str base.Query, cB base.Asks, .str base.Fragment, cB base.Points]))) 1 (some (S ref))) 2 (some (.c (.ref 0 8 0 0)))) 4 (some (.c (.ref 1 8 0 0)))) 5 (some (I 0))) 6 (some (.c (.ref 2 8 0 0)))) 7 (some (S r_.1))) 8 (some (B r_.2.1))) 9 (some (S r_1.1))) 10 (some (B r_1.2))) 11 (some (.c (.ro false 1 (r_2.1.map eStr))))) 12 (some (B r_2.2))) 13 (some (.c (.ref 0 8 0 0)))) 14 (some (S base.Scheme))) 15 (some (.c (.ref 0 8 0 1)))) 16 (some (S base.Host))) 17 (some (.c (.ref 0 8 0 2)))) 18 (some (I base.Port))) 19 (some (.agg [.str base.Scheme, .str base.Host, cI base.Port, .ro true 1 [], .str [], cB false, .str [], cB false]))) 20 (some (.tup [(S r_.1), (B r_.2.1)]))) 21 (some (S ref))) 22 (some (.tup [(S r_.1), (B r_.2.1)]))) 23 (some (S r_.1))) 24 (some (B r_.2.1))) 25 (some (.tup [(S r_1.1), (B r_1.2)]))) 26 (some (S r_.1))) 27 (some (.tup [(S r_1.1), (B r_1.2)]))) 28 (some (S r_1.1))) 29 (some (B r_1.2))) 30 (some (.tup [(.c (.ro false 1 (r_2.1.map eStr))), (B r_2.2)]))) 31 (some (S r_1.1))) 32 (some (.tup [(.c (.ro false 1 (r_2.1.map eStr))), (B r_2.2)]))) 33 (some (.c (.ro false 1 (r_2.1.map eStr))))) 34 (some (B r_2.2))) 35 (some (B ((!r_.2.1) || (!r_2.2))))) 36 (some (B r_.2.1))) 37 (some (B (!r_.2.1)))) 38 (some (B (!r_.2.1)))) 41 (some (B ((!r_.2.1) || (!r_2.2))))) 43 (some (B (decide (r_.1 = []))))) 44 (some (S r_.1))) 45 (some (B (decide (r_.1 = []))))) 59 (some (B (!r_1.2)))) 60 (some (B r_1.2))) 61 (some (B (!r_1.2)))) 62 (some (.c (.ref 0 8 0 3)))) 63 (some (.c (.ro false 1 (base.Path.map eStr))))) 64 (some (.c (.ref 0 8 0 3)))) 65 (some (.c (.ro false 1 (base.Path.map eStr))))) 66 (some (I (base.Path.length : Int)))) 67 (some (I (wi ((base.Path.length : Int) - 1))))) 68 (some (.c (.ro false 1 (r_4.map eStr))))) 69 (some (.c (.ro false 1 (r_2.1.map eStr))))), (upd (upd (upd (upd e0 0 (some (.cells 8 [[.str base.Scheme, .str base.Host, cI base.Port, .ro false 1 (base.Path.map eStr), .str base.Query, cB base.Asks, .str base.Fragment, cB base.Points]]))) 1 (some (.cells 8 [[.str [], .str [], cI 0, .ro true 1 [], .str [], cB false, .str [], cB false]]))) 2 (some (.cells 8 [[.str r_.2.2.Scheme, .str r_.2.2.Host, cI r_.2.2.Port, lstC z_ 4 1 r_.2.2.Path.length, .str r_.2.2.Query, cB r_.2.2.Asks, .str r_.2.2.Fragment, cB r_.2.2.Points]]))) 4 (lstB z_ 1 (r_.2.2.Path.map eStr))), 6⟩ from (wcn [0, 1, 2, 1003, 4, 1005] rfl (.cons rfl (.c (lstC_ro (es := List.map eStr r_2.1) rfl (List.length_map eStr).symm (map_nil_of hz_1) (fun b x hx => not_in (bs := [0, 1, 2, 1003, 4, 1005]) rfl b (((.cons (by decide) (.cons (by decide) (.cons (by decide) (.cons (by decide) .nil)))) : HLt _ _) b x hx)) (fr_map fun _ => rfl))) (.cf rfl rfl (.cf rfl rfl (.cf rfl rfl (.cf rfl rfl (.cons rfl (.c (.ref rfl (by decide))) (.cf rfl rfl (.cons rfl (.c (.ref rfl (by decide))) (.cf rfl rfl (.cf rfl rfl (.cf rfl rfl (.cf rfl rfl (.cf rfl rfl (.cf rfl rfl (.cf rfl rfl (.cf rfl rfl (.cf rfl rfl (.cf rfl rfl (.cf rfl rfl (.cf rfl rfl (.cons rfl (.c (lstC_ro (es := List.map eStr r_2.1) rfl (List.length_map eStr).symm (map_nil_of hz_1) (fun b x hx => not_in (bs := [0, 1, 2, 1003, 4, 1005]) rfl b (((.cons (by decide) (.cons (by decide) (.cons (by decide) (.cons (by decide) .nil)))) : HLt _ _) b x hx)) (fr_map fun _ => rfl))) (.cons rfl (avAs_tup (.cons (.c (lstC_ro (es := List.map eStr r_2.1) rfl (List.length_map eStr).symm (map_nil_of hz_1) (fun b x hx => not_in (bs := [0, 1, 2, 1003, 4, 1005]) rfl b (((.cons (by decide) (.cons (by decide) (.cons (by decide) (.cons (by decide) .nil)))) : HLt _ _) b x hx)) (fr_map fun _ => rfl))) (.cons (avAs_free rfl) .nil))) (.cf rfl rfl (.cons rfl (avAs_tup (.cons (.c (lstC_ro (es := List.map eStr r_2.1) rfl (List.length_map eStr).symm (map_nil_of hz_1) (fun b x hx => not_in (bs := [0, 1, 2, 1003, 4, 1005]) rfl b (((.cons (by decide) (.cons (by decide) (.cons (by decide) (.cons (by decide) .nil)))) : HLt _ _) b x hx)) (fr_map fun _ => rfl))) (.cons (avAs_free rfl) .nil))) (.cf rfl rfl (.cf rfl rfl (.cons rfl (avAs_tup (.cons (avAs_free rfl) (.cons (avAs_free rfl) .nil))) (.cf rfl rfl (.cons rfl (avAs_tup (.cons (avAs_free rfl) (.cons (avAs_free rfl) .nil))) (.cf rfl rfl (.cf rfl rfl (.cons rfl (avAs_tup (.cons (avAs_free rfl) (.cons (avAs_free rfl) .nil))) (.cf rfl rfl (.cons rfl (avAs_tup (.cons (avAs_free rfl) (.cons (avAs_free rfl) .nil))) (.cf rfl rfl (.cf rfl rfl (.cons rfl (.c (.ref rfl (by decide))) (.cf rfl rfl (.cons rfl (.c (.ref rfl (by decide))) (.cf rfl rfl (.cons rfl (.c (.ref rfl (by decide))) (.cf rfl rfl (.cons rfl (.c (lstC_ro (es := List.map eStr r_2.1) rfl (List.length_map eStr).symm (map_nil_of hz_1) (fun b x hx => not_in (bs := [0, 1, 2, 1003, 4, 1005]) rfl b (((.cons (by decide) (.cons (by decide) (.cons (by decide) (.cons (by decide) .nil)))) : HLt _ _) b x hx)) (fr_map fun _ => rfl))) (.cf rfl rfl (.cf rfl rfl (.cf rfl rfl (.cf rfl rfl (.cons rfl (.c (.ref rfl (by decide))) (.cf rfl rfl (.cons rfl (.c (.ref rfl (by decide))) (.cons rfl (.c (.ref rfl (by decide))) (.cf rfl rfl (.cf rfl rfl .nil))))))))))))))))))))))))))))))))))))))))))))))))))))) (.row (by decide) rfl (fr_map fun _ => rfl) (.box (by decide) rfl (blkAs_cells (.sm rfl (.sm rfl (.sm rfl (.cons (lstC_ren rfl (by decide)) (.sm rfl (.sm rfl (.sm rfl (.sm rfl .nil))))))))) (.box (by decide) rfl (blkAs_cells (.sm rfl (.sm rfl (.sm rfl (.sm rfl (.sm rfl (.sm rfl (.sm rfl (.sm rfl .nil))))))))) (.box (by decide) rfl (blkAs_cells (.sm rfl (.sm rfl (.sm rfl (.sm rfl (.sm rfl (.sm rfl (.sm rfl (.sm rfl .nil))))))))) .nil)))))) <| un <| a2v (v := (lstV false 6 1 [r_4, r_2.1].length)) (h' := upd _ 6 (lstB false 1 ([r_4, r_2.1].map (eSl 1 eStr)))) (n' := 7) rfl rfl (fun h => by cases h) ?_
    obtain ⟨r_5, hr5, h⟩ := bnd h
    refine un <| ac_gen (bs := []) («as» := [(.c (.ro false 1 ([r_4, r_2.1].map (eSl 1 eStr))))]) (h2 := (upd _ 6 none)) (h1 := e0) (slices_Concat_string_ok hr5) rfl (.cons (.c (lstC_ro (es := List.map (eSl 1 eStr) [r_4, r_2.1]) rfl (List.length_map (eSl 1 eStr)).symm (map_nil_of (fun h => by cases h)) (gone rfl) (fr_map fun _ => rfl))) .nil) (hsub_none (hsub_refl _)) (.nil _) (fun _ => rfl) (by decide) (by decide) (.cons (avAs_free rfl) .nil) .nil ?_
    rintro _ _ _ hn ⟨z_3, hz_3, rfl, rfl, rfl⟩
    refine ⟨.inr ⟨(by cases z_3 <;> rfl), (.row (cl_map fun _ => rfl) .nil)⟩, (upd (rem [] _) 7 (lstB z_3 1 (r_5.map eStr))), fun hbd => (m3_cons (m3_row rfl (fr_map fun _ => rfl)) (m3_rem (in_nil _) (.cons (by decide) .nil) hbd)), (lstV z_3 7 1 r_5.length), 8, (by cases z_3 <;> rfl), rfl, ?_⟩
    refine un1 rfl <| dnil ?_
    exact Sv.weak (wcn [1, 2, 4, 7] rfl (.cons rfl (.c (lstC_ren rfl (by decide))) (.cons rfl (.c (.ref rfl (by decide))) (.cons rfl (.c (.ref rfl (by decide))) .nil))) (.row (by decide) rfl (fr_map fun _ => rfl) (.row (by decide) rfl (fr_map fun _ => rfl) (.box (by decide) rfl (blkAs_cells (.sm rfl (.sm rfl (.sm rfl (.cons (lstC_ren rfl (by decide)) (.sm rfl (.sm rfl (.sm rfl (.sm rfl .nil))))))))) (.box (by decide) rfl (blkAs_cells (.sm rfl (.sm rfl (.sm rfl (.sm rfl (.sm rfl (.sm rfl (.sm rfl (.sm rfl .nil))))))))) .nil))))) (url_beside_j3_ok hz_ hz_3 h)
   ·replace h := ifF hc5 h
    refine Sv.skip ?_
    exact Sv.weak (wcn [1, 2, 4, 5] rfl (.cons rfl (.c (lstC_ren rfl (by decide))) (.cons rfl (.c (.ref rfl (by decide))) (.cons rfl (.c (.ref rfl (by decide))) .nil))) (.row (by decide) rfl (fr_map fun _ => rfl) (.row (by decide) rfl (fr_map fun _ => rfl) (.box (by decide) rfl (blkAs_cells (.sm rfl (.sm rfl (.sm rfl (.cons (lstC_ren rfl (by decide)) (.sm rfl (.sm rfl (.sm rfl (.sm rfl .nil))))))))) (.box (by decide) rfl (blkAs_cells (.sm rfl (.sm rfl (.sm rfl (.sm rfl (.sm rfl (.sm rfl (.sm rfl (.sm rfl .nil))))))))) .nil))))) (url_beside_j3_ok hz_ hz_1 h)
noncomputable abbrev strconv_Itoa (i_ : Int) : Option Tx := itoa? i_
/-- strconv.Itoa, by the contract of the shelf -/
theorem strconv_Itoa_ok {mL : Int} {i_ : Int} {r : Tx} (h : strconv_Itoa i_ = some r) : CPure Tryz.prog (GG mL) 36 [(I i_)] (S r) := itoa_ok (g := 3) Tryz.laysM171 (by kernel_rfl) (by kernel_rfl) h
def a25_c0 : ACode := (.seq (.region [(mV 19 3), (mV 2 19)])
 .ret)
def a25 : AFunc := ⟨1, [(.tmp 2)], (.seq (.region [(oP 1 (.box (.tmp 0))), ⟨(some 2), (.mov (.const (.c (.str [])))), none⟩])
 (.seq (.region [(oP 4 (.faddr 0 (.tmp 1))), (oP 5 (.load false 1 (.tmp 4))), ⟨(some 6), (.bin .add (.tmp 5) (.const (.c (.str [58, 47, 47])))), none⟩, (oP 7 (.faddr 1 (.tmp 1))), (oP 8 (.load false 1 (.tmp 7))), (oP 9 (.bin .add (.tmp 6) (.tmp 8))), (mV 3 9)])
 (.seq (.seq (.region [(oP 10 (.faddr 2 (.tmp 1))), (oP 11 (.load false 1 (.tmp 10))), ⟨(some 12), (.bin .neq (.tmp 11) (kI 0)), none⟩])
 (.cond (.tmp 12) (.region [(mV 13 3), (oP 14 (.faddr 2 (.tmp 1))), (oP 15 (.load false 1 (.tmp 14))), (oP 16 (.call 36 [(.tmp 15)])), ⟨(some 17), (.bin .add (.const (.c (.str [58]))) (.tmp 16)), none⟩, (oP 18 (.bin .add (.tmp 13) (.tmp 17))), (mV 3 18)]) .skip))
 a25_c0)))⟩
set_option maxRecDepth 100000 in
theorem c25 : compFunc Tryz.prog 25 = some a25 := by kernel_rfl
def url_origin_post (r : Tx) : AV → Heap → Nat → Prop := fun v h' n' => v = (S r) ∧ (h' = e0) ∧ n' = 0
noncomputable def url_origin_j1 (out : Tx) : Option Tx :=
 some out
theorem url_origin_j1_ok {mL : Int} {out : Tx} {o : Tx} (h : url_origin_j1 out = some o) :
  Sv Tryz.prog (GG mL) 0 a25_c0 (Ends a25.results 0 (url_origin_post o)) ⟨(upd e0 3 (some (S out))), e0, 0⟩ := by
 unfold url_origin_j1 at h
 refine ssr <| un1 rfl <| un1 rfl <| dnil <| Sv.ret ?_
 replace h := Option.some.inj h
 subst h
 exact ⟨_, .refl _, _, rfl, ⟨upd e0 0 (some (S out)), e0, 0⟩, (S out), weak_canon [] rfl List.nodup_nil (Nat.le_refl _) nlz (.cf rfl rfl .nil) .nil, rfl, rfl, rfl, rfl⟩
/-- clerestory/url.origin -/
noncomputable def url_origin (u_ : TJUrl) : Option Tx :=
 (cat? u_.Scheme [58, 47, 47]).bind fun r_ =>
 (cat? r_ u_.Host).bind fun r_1 =>
 if (!decide (u_.Port = 0)) then
  (strconv_Itoa u_.Port).bind fun r_2 =>
  (cat? [58] r_2).bind fun r_3 =>
  (cat? r_1 r_3).bind fun r_4 =>
  url_origin_j1 r_4
 else
  url_origin_j1 r_1
theorem url_origin_ok {mL : Int} {u_ : TJUrl} {r : Tx} (h : url_origin u_ = some r) : CPure Tryz.prog (GG mL) 25 [(.agg [.str u_.Scheme, .str u_.Host, cI u_.Port, .ro false 1 (u_.Path.map eStr), .str u_.Query, cB u_.Asks, .str u_.Fragment, cB u_.Points])] (S r) := by
 refine acalls_of_sv hmix c25 (R := url_origin_post r) ?_
 unfold url_origin at h
 refine ssr <| un <| a2v (v := (.c (.ref 0 8 0 0))) (h' := upd _ 0 (some (.cells 8 [[.str u_.Scheme, .str u_.Host, cI u_.Port, .ro false 1 (u_.Path.map eStr), .str u_.Query, cB u_.Asks, .str u_.Fragment, cB u_.Points]]))) (n' := 1) rfl rfl (fun h => by cases h) <| un1 rfl <| dnil <| ssr <| un1 (v := (.c (.ref 0 8 0 0))) rfl <| un1 (v := (S u_.Scheme)) rfl ?_
 obtain ⟨r_, hx1, h⟩ := bnd h
 refine un1 (v := (S r_)) (s_cat rfl rfl hx1) <| un1 (v := (.c (.ref 0 8 0 1))) rfl <| un1 (v := (S u_.Host)) rfl ?_
 obtain ⟨r_1, hx2, h⟩ := bnd h
 refine un1 (v := (S r_1)) (s_cat rfl rfl hx2) <| un1 rfl <| dnil <| Sv.seq <| ssr <| un1 (v := (.c (.ref 0 8 0 2))) rfl <| un1 (v := (I u_.Port)) rfl <| un1 (v := (B (!decide (u_.Port = 0)))) rfl <| dnil ?_
 refine Sv.cond (b := (!decide (u_.Port = 0))) rfl (fun hc1 => ?_) (fun hc1 => ?_)
 ·replace h := ifT hc1 h
  refine srg <| un1 rfl <| un1 (v := (.c (.ref 0 8 0 2))) rfl <| un1 (v := (I u_.Port)) rfl ?_
  obtain ⟨r_2, hr1, h⟩ := bnd h
  refine un <| ac_pure (strconv_Itoa_ok hr1) rfl rfl rfl ?_
  obtain ⟨r_3, hx3, h⟩ := bnd h
  refine un1 (v := (S r_3)) (s_cat rfl rfl hx3) ?_
  obtain ⟨r_4, hx4, h⟩ := bnd h
  refine un1 (v := (S r_4)) (s_cat rfl rfl hx4) <| un1 rfl <| dnil ?_
  exact Sv.weak (wcn [] rfl (.cf rfl rfl .nil) .nil) (url_origin_j1_ok h)
 ·replace h := ifF hc1 h
  refine Sv.skip ?_
  exact Sv.weak (wcn [] rfl (.cf rfl rfl .nil) .nil) (url_origin_j1_ok h)
def a65_c0 : ACode := (.region [⟨(some 23), (.bin .add (.tmp 7) (kI 1)), none⟩, (mV 7 23)])
def a65_c1 : ACode := (.seq (.region [(oP 8 (.bin .lss (.tmp 7) (.tmp 6)))])
 (.seq (.cond (.tmp 8) .skip (.exit 0))
 (.seq (.block 1 (.seq (.region [(mV 9 7), (mV 4 9)])
 (.seq (.region [(mV 10 0), (mV 11 4), (oP 12 (.idxS (.tmp 10) (.tmp 11))), (oP 13 (.call 86 [(.tmp 12)]))])
 (.cond (.tmp 13) (.region [(mV 14 0), (mV 15 4), (oP 16 (.idxS (.tmp 14) (.tmp 15))), (oP 17 (.call 87 [(.tmp 3), (.tmp 16)]))]) (.region [(mV 18 0), (mV 19 4), (oP 20 (.idxS (.tmp 18) (.tmp 19))), (oP 21 (.call 88 [(.tmp 20)])), (oP 22 (.call 64 [(.tmp 3), (.tmp 21)]))])))))
 a65_c0)))
def a65 : AFunc := ⟨1, [(.tmp 2)], (.seq (.region [⟨(some 2), (.mov (.const (.c (.str [])))), none⟩])
 (.seq (.region [(oP 3 (.boxB 76))])
 (.seq (.seq (.region [(mV 5 0), (oP 6 (.lenS (.tmp 5))), ⟨(some 7), (.mov (kI 0)), none⟩])
 (.block 0 (.loop a65_c1)))
 (.seq (.region [(oP 24 (.call 66 [(.tmp 3)])), (mV 2 24)])
 .ret))))⟩
set_option maxRecDepth 100000 in
theorem c65 : compFunc Tryz.prog 65 = some a65 := by kernel_rfl
def url_Encode_post (r : Tx) : AV → Heap → Nat → Prop := fun v h' n' => v = (S r) ∧ (h' = e0) ∧ n' = 0
noncomputable def url_Encode_j3 (v7 : Int) (s_ : Tx) (self : Tx → Int → Option Tx) (K0_ : Tx → Option Tx) (out2 : Tx) : Option Tx :=
 self out2 (wi (v7 + 1))
theorem url_Encode_j3_ok {mL : Int} {Q : AExit → St → Prop} {v7 : Int} {s_ : Tx} {self : Tx → Int → Option Tx} {K0_ : Tx → Option Tx} {out2 : Tx} {zout2 : Bool} (hzout2 : zout2 = true → out2 = []) {o : Tx} (h : url_Encode_j3 v7 s_ self K0_ out2 = some o)
  (hself : ∀ (out : Tx) (v7 : Int) (zout : Bool) (_ : zout = true → out = []), self out v7 = some o → ∀ s, Weak 0 s ⟨(upd (upd (upd (upd e0 0 (some (S s_))) 3 (some (.c (.ref 0 2 0 0)))) 6 (some (I (s_.length : Int)))) 7 (some (I v7))), (upd (upd e0 0 (some (.bld 76 zout 1 out.length))) 1 (bufB zout 5 out)), 2⟩ → (Q) .normal s)
  (hK0 : ∀ (out1 : Tx) (zout1 : Bool) (_ : zout1 = true → out1 = []), K0_ out1 = some o → ∀ s, Weak 0 s ⟨(upd e0 3 (some (.c (.ref 0 2 0 0)))), (upd (upd e0 0 (some (.bld 76 zout1 1 out1.length))) 1 (bufB zout1 5 out1)), 2⟩ → Q (.exit 0) s)
  (hr : ∀ s, Ends a65.results 0 (url_Encode_post o) .ret s → Q .ret s) :
  Sv Tryz.prog (GG mL) 0 a65_c0 Q ⟨(upd (upd (upd (upd e0 0 (some (S s_))) 3 (some (.c (.ref 0 2 0 0)))) 6 (some (I (s_.length : Int)))) 7 (some (I v7))), (upd (upd e0 0 (some (.bld 76 zout2 1 out2.length))) 1 (bufB zout2 5 out2)), 2⟩ := by
 unfold url_Encode_j3 at h
 refine srg <| un1 (v := (I (wi (v7 + 1)))) rfl <| un1 rfl <| dnil ?_
 exact hself out2 (wi (v7 + 1)) zout2 hzout2 h _ (wcn [0, 1] rfl (.cf rfl rfl (.cf rfl rfl (.cons rfl (.c (.ref rfl (by decide))) (.cf rfl rfl .nil)))) (.buf (by decide) rfl (.box (by decide) rfl (.bld rfl (by decide)) .nil)))
noncomputable def url_Encode_l0 (s_ : Tx) (K0_ : Tx → Option Tx) : Nat → Tx → Int → Option Tx
 | 0, _, _ => none
 | k + 1, out, v7 =>
  if decide (v7 < (s_.length : Int)) then
   (at? s_ v7).bind fun c_ =>
   (url_plain (c_.toNat : Int)).bind fun r_ =>
   if r_ then
    (at? s_ v7).bind fun c_1 =>
    (sb_WriteByte out (c_1.toNat : Int)).bind fun r_1 =>
    url_Encode_j3 v7 s_ (url_Encode_l0 s_ K0_ k) K0_ r_1
   else
    (at? s_ v7).bind fun c_2 =>
    (url_triple (c_2.toNat : Int)).bind fun r_2 =>
    (sb_WriteString out r_2).bind fun r_3 =>
    url_Encode_j3 v7 s_ (url_Encode_l0 s_ K0_ k) K0_ r_3
  else
   K0_ out
theorem url_Encode_l0_ok {mL : Int} {Q : AExit → St → Prop} {s_ : Tx} {K0_ : Tx → Option Tx} {k : Nat} {out : Tx} {v7 : Int} {zout : Bool} (hzout : zout = true → out = []) {o : Tx} (h : url_Encode_l0 s_ K0_ k out v7 = some o)
  (hK0 : ∀ (out1 : Tx) (zout1 : Bool) (_ : zout1 = true → out1 = []), K0_ out1 = some o → ∀ s, Weak 0 s ⟨(upd e0 3 (some (.c (.ref 0 2 0 0)))), (upd (upd e0 0 (some (.bld 76 zout1 1 out1.length))) 1 (bufB zout1 5 out1)), 2⟩ → Q (.exit 0) s)
  (hr : ∀ s, Ends a65.results 0 (url_Encode_post o) .ret s → Q .ret s) :
  Sv Tryz.prog (GG mL) 0 (.loop a65_c1) Q ⟨(upd (upd (upd (upd e0 0 (some (S s_))) 3 (some (.c (.ref 0 2 0 0)))) 6 (some (I (s_.length : Int)))) 7 (some (I v7))), (upd (upd e0 0 (some (.bld 76 zout 1 out.length))) 1 (bufB zout 5 out)), 2⟩ := by
 refine Sv.loop (I := fun k s => ∃ (out : Tx), ∃ (v7 : Int), ∃ (zout : Bool), (zout = true → out = []) ∧ url_Encode_l0 s_ K0_ k out v7 = some o ∧ s = ⟨(upd (upd (upd (upd e0 0 (some (S s_))) 3 (some (.c (.ref 0 2 0 0)))) 6 (some (I (s_.length : Int)))) 7 (some (I v7))), (upd (upd e0 0 (some (.bld 76 zout 1 out.length))) 1 (bufB zout 5 out)), 2⟩) (fun k s hI => ?_) ⟨out, v7, zout, hzout, h, rfl⟩
 clear h
 clear hzout zout v7 out
 obtain ⟨out, v7, zout, hzout, h, rfl⟩ := hI
 cases k with
 | zero => cases h
 | succ k =>
 rw [url_Encode_l0] at h
 have hself : ∀ (out : Tx) (v7 : Int) (zout : Bool) (_ : zout = true → out = []), (url_Encode_l0 s_ K0_ k) out v7 = some o → ∀ s, Weak 0 s ⟨(upd (upd (upd (upd e0 0 (some (S s_))) 3 (some (.c (.ref 0 2 0 0)))) 6 (some (I (s_.length : Int)))) 7 (some (I v7))), (upd (upd e0 0 (some (.bld 76 zout 1 out.length))) 1 (bufB zout 5 out)), 2⟩ → (AThen (fun s' => ∃ s'' k', Weak 0 s' s'' ∧ k' < k + 1 ∧ (fun k s => ∃ (out : Tx), ∃ (v7 : Int), ∃ (zout : Bool), (zout = true → out = []) ∧ url_Encode_l0 s_ K0_ k out v7 = some o ∧ s = ⟨(upd (upd (upd (upd e0 0 (some (S s_))) 3 (some (.c (.ref 0 2 0 0)))) 6 (some (I (s_.length : Int)))) 7 (some (I v7))), (upd (upd e0 0 (some (.bld 76 zout 1 out.length))) 1 (bufB zout 5 out)), 2⟩) k' s'') Q) .normal s := fun out v7 zout hzout h s hw => ⟨_, k, hw, Nat.lt_succ_self k, out, v7, zout, hzout, h, rfl⟩
 refine ssr <| un1 (v := (B (decide (v7 < (s_.length : Int))))) rfl <| dnil <| Sv.seq ?_
 refine Sv.cond (b := decide (v7 < (s_.length : Int))) rfl (fun hc1 => ?_) (fun hc1 => ?_)
 ·replace h := ifT hc1 h
  refine Sv.skip <| Sv.seq <| Sv.block <| ssr <| un1 rfl <| un1 rfl <| dnil <| ssr <| un1 rfl <| un1 rfl ?_
  obtain ⟨c_, hx1, h⟩ := bnd h
  refine un1 (v := (.c (.val (.int .u8 (c_.toNat : Int))))) (s_idxS rfl rfl hx1) ?_
  obtain ⟨r_, hr1, h⟩ := bnd h
  refine un <| ac_pure (url_plain_ok hr1) rfl rfl rfl <| dnil ?_
  refine Sv.cond (b := r_) rfl (fun hc2 => ?_) (fun hc2 => ?_)
  ·replace h := ifT hc2 h
   refine srg <| un1 rfl <| un1 rfl ?_
   obtain ⟨c_1, hx2, h⟩ := bnd h
   refine un1 (v := (.c (.val (.int .u8 (c_1.toNat : Int))))) (s_idxS rfl rfl hx2) ?_
   obtain ⟨r_1, hr2, h⟩ := bnd h
   refine un <| ac_gen (bs := [0, 1]) («as» := [(.c (.ref 0 2 0 0)), (.c (.val (.int .u8 (c_1.toNat : Int))))]) (h2 := _) (h1 := (upd (upd e0 0 (some (.bld 76 zout 1 out.length))) 1 (bufB zout 5 out))) (sb_WriteByte_ok (z := zout) (l := out) hzout hr2) rfl (.cons (.c (.ref rfl (by decide))) (.cons (avAs_free rfl) .nil)) (hsub_refl _) (.cons rfl (.cons rfl (.nil _))) (fun h => by cases h) (by decide) (by decide) (.cons (.c (.ref rfl (by decide))) (.cons (avAs_free rfl) .nil)) (.buf (by decide) rfl (.box (by decide) rfl (.bld rfl (by decide)) .nil)) ?_
   rintro _ _ _ hn ⟨z_, hz_, rfl, rfl, rfl⟩
   refine ⟨.inl rfl, (upd (upd (rem [0, 1] _) 0 (some (.bld 76 z_ 2 r_1.length))) 2 (bufB z_ 5 r_1)), fun hbd => (m3_cons (m3_buf rfl) (m3_cons (m3_box rfl rfl) (m3_rem (in_cons (by decide) (in_cons (by decide) (in_nil _))) (.cons (by decide) (.cons (by decide) .nil)) hbd))), (.c (.val .nilIface)), 3, (by cases z_ <;> rfl), rfl, ?_⟩
   refine dnil ?_
   exact Sv.weak (wcn [0, 2] rfl (.cf rfl rfl (.cf rfl rfl (.cons rfl (.c (.ref rfl (by decide))) (.cf rfl rfl .nil)))) (.buf (by decide) rfl (.box (by decide) rfl (.bld rfl (by decide)) .nil))) (url_Encode_j3_ok hz_ h hself hK0 hr)
  ·replace h := ifF hc2 h
   refine srg <| un1 rfl <| un1 rfl ?_
   obtain ⟨c_2, hx3, h⟩ := bnd h
   refine un1 (v := (.c (.val (.int .u8 (c_2.toNat : Int))))) (s_idxS rfl rfl hx3) ?_
   obtain ⟨r_2, hr3, h⟩ := bnd h
   refine un <| ac_pure (url_triple_ok hr3) rfl rfl rfl ?_
   obtain ⟨r_3, hr4, h⟩ := bnd h
   refine un <| ac_gen (bs := [0, 1]) («as» := [(.c (.ref 0 2 0 0)), (S r_2)]) (h2 := _) (h1 := (upd (upd e0 0 (some (.bld 76 zout 1 out.length))) 1 (bufB zout 5 out))) (sb_WriteString_ok (z := zout) (l := out) hzout hr4) rfl (.cons (.c (.ref rfl (by decide))) (.cons (avAs_free rfl) .nil)) (hsub_refl _) (.cons rfl (.cons rfl (.nil _))) (fun h => by cases h) (by decide) (by decide) (.cons (.c (.ref rfl (by decide))) (.cons (avAs_free rfl) .nil)) (.buf (by decide) rfl (.box (by decide) rfl (.bld rfl (by decide)) .nil)) ?_
   rintro _ _ _ hn ⟨z_1, hz_1, rfl, rfl, rfl⟩
   refine ⟨.inl rfl, (upd (upd (rem [0, 1] _) 0 (some (.bld 76 z_1 2 r_3.length))) 2 (bufB z_1 5 r_3)), fun hbd => (m3_cons (m3_buf rfl) (m3_cons (m3_box rfl rfl) (m3_rem (in_cons (by decide) (in_cons (by decide) (in_nil _))) (.cons (by decide) (.cons (by decide) .nil)) hbd))), (.tup [(I (r_2.length : Int)), (.c (.val .nilIface))]), 3, (by cases z_1 <;> rfl), rfl, ?_⟩
   refine dnil ?_
   exact Sv.weak (wcn [0, 2] rfl (.cf rfl rfl (.cf rfl rfl (.cons rfl (.c (.ref rfl (by decide))) (.cf rfl rfl .nil)))) (.buf (by decide) rfl (.box (by decide) rfl (.bld rfl (by decide)) .nil))) (url_Encode_j3_ok hz_1 h hself hK0 hr)
 ·replace h := ifF hc1 h
  refine Sv.exit ?_
  exact hK0 out zout hzout h _ (wcn [0, 1] rfl (.cons rfl (.c (.ref rfl (by decide))) .nil) (.buf (by decide) rfl (.box (by decide) rfl (.bld rfl (by decide)) .nil)))
/-- clerestory/url.Encode -/
noncomputable def url_Encode (s_ : Tx) : Option Tx :=
 lim fun kk => url_Encode_l0 s_ (fun (out1 : Tx) => 
   some out1) kk ([] : List UInt8) 0
theorem url_Encode_ok {mL : Int} {s_ : Tx} {r : Tx} (h : url_Encode s_ = some r) : CPure Tryz.prog (GG mL) 65 [(S s_)] (S r) := by
 refine acalls_of_sv hmix c65 (R := url_Encode_post r) ?_
 unfold url_Encode at h
 refine ssr <| un1 rfl <| dnil <| ssr <| un <| a2v (v := (.c (.ref 1 2 0 0))) (h' := upd _ 1 (some (.bld 76 true 0 ([] : List UInt8).length))) (n' := 2) rfl rfl (fun h => by cases h) <| dnil <| Sv.seq <| ssr <| un1 rfl <| un1 (v := (I (s_.length : Int))) rfl <| un1 rfl <| dnil <| Sv.block ?_
 obtain ⟨kk, h⟩ := lim_some h
 refine Sv.weak (wcn [1, 1000] rfl (.cf rfl rfl (.cf rfl rfl (.cons rfl (.c (.ref rfl (by decide))) (.cf rfl rfl .nil)))) (.nonB (by decide) (.box (by decide) rfl (.bldN (by decide)) .nil))) (url_Encode_l0_ok (fun _ => rfl) h ?_ (fun s hs => hs))
 ·intro out1 zout1 hzout1 h _ hw1
  refine Sv.weak hw1 <| ssr <| un <| ac_gen (bs := [0, 1]) («as» := [(.c (.ref 0 2 0 0))]) (h2 := _) (h1 := (upd (upd e0 0 (some (.bld 76 zout1 1 out1.length))) 1 (bufB zout1 5 out1))) (sb_String_ok (z := zout1) (l := out1) hzout1) rfl (.cons (.c (.ref rfl (by decide))) .nil) (hsub_refl _) (.cons rfl (.cons rfl (.nil _))) (fun h => by cases h) (by decide) (by decide) (.cons (.c (.ref rfl (by decide))) .nil) (.buf (by decide) rfl (.box (by decide) rfl (.bld rfl (by decide)) .nil)) ?_
  rintro _ _ _ hn ⟨rfl, rfl, rfl⟩
  refine ⟨.inl rfl, (rem [0, 1] _), fun hbd => (m3_rem (in_cons (by decide) (in_cons (by decide) (in_nil _))) (.nil) hbd), (S out1), 2, rfl, rfl, ?_⟩
  refine un1 rfl <| dnil <| Sv.ret ?_
  replace h := Option.some.inj h
  subst h
  exact ⟨_, .refl _, _, rfl, ⟨upd e0 0 (some (S out1)), e0, 0⟩, (S out1), weak_canon [] rfl List.nodup_nil (Nat.le_refl _) nlz (.cf rfl rfl .nil) .nil, rfl, rfl, rfl, rfl⟩
def a37_c0 : ACode := (.seq (.region [(oP 13 (.bin .lss (.tmp 12) (.tmp 11)))])
 (.seq (.cond (.tmp 13) .skip (.exit 0))
 (.seq (.block 1 (.seq (.region [(oP 14 (.iaddr 1 (.tmp 10) (.tmp 12))), (oP 15 (.load false 1 (.tmp 14))), (mV 5 15)])
 (.region [(mV 16 5), (oP 17 (.call 65 [(.tmp 16)])), ⟨(some 18), (.bin .add (.const (.c (.str [47]))) (.tmp 17)), none⟩, (oP 19 (.call 64 [(.tmp 3), (.tmp 18)]))])))
 (.region [⟨(some 20), (.bin .add (.tmp 12) (kI 1)), none⟩, (mV 12 20)]))))
def a37_c2 : ACode := (.seq (.region [(oP 33 (.call 66 [(.tmp 3)])), (mV 2 33)])
 .ret)
def a37_c1 : ACode := (.seq (.seq (.region [(oP 27 (.faddr 7 (.tmp 1))), (oP 28 (.load false 1 (.tmp 27)))])
 (.cond (.tmp 28) (.region [(oP 29 (.faddr 6 (.tmp 1))), (oP 30 (.load false 1 (.tmp 29))), ⟨(some 31), (.bin .add (.const (.c (.str [35]))) (.tmp 30)), none⟩, (oP 32 (.call 64 [(.tmp 3), (.tmp 31)]))]) .skip))
 a37_c2)
def a37 : AFunc := ⟨1, [(.tmp 2)], (.seq (.region [(oP 1 (.box (.tmp 0))), ⟨(some 2), (.mov (.const (.c (.str [])))), none⟩])
 (.seq (.region [(oP 3 (.boxB 76))])
 (.seq (.region [(oP 6 (.load true 8 (.tmp 1))), (oP 7 (.call 25 [(.tmp 6)])), (oP 8 (.call 64 [(.tmp 3), (.tmp 7)]))])
 (.seq (.seq (.region [(oP 9 (.faddr 3 (.tmp 1))), (oP 10 (.load false 1 (.tmp 9))), (oP 11 (.len (.tmp 10))), ⟨(some 12), (.mov (kI 0)), none⟩])
 (.block 0 (.loop a37_c0)))
 (.seq (.seq (.region [(oP 21 (.faddr 5 (.tmp 1))), (oP 22 (.load false 1 (.tmp 21)))])
 (.cond (.tmp 22) (.region [(oP 23 (.faddr 4 (.tmp 1))), (oP 24 (.load false 1 (.tmp 23))), ⟨(some 25), (.bin .add (.const (.c (.str [63]))) (.tmp 24)), none⟩, (oP 26 (.call 64 [(.tmp 3), (.tmp 25)]))]) .skip))
 a37_c1)))))⟩
set_option maxRecDepth 100000 in
theorem c37 : compFunc Tryz.prog 37 = some a37 := by kernel_rfl
def url_text_post (r : Tx) : AV → Heap → Nat → Prop := fun v h' n' => v = (S r) ∧ (h' = e0) ∧ n' = 0
noncomputable def url_text_l0 (u_ : TJUrl) (K0_ : Tx → Option Tx) : Nat → Tx → Int → Option Tx
 | 0, _, _ => none
 | k + 1, out, v12 =>
  if decide (v12 < (u_.Path.length : Int)) then
   (at? u_.Path v12).bind fun x_ =>
   (url_Encode x_).bind fun r_2 =>
   (cat? [47] r_2).bind fun r_3 =>
   (sb_WriteString out r_3).bind fun r_4 =>
   (url_text_l0 u_ K0_ k) r_4 (wi (v12 + 1))
  else
   K0_ out
theorem url_text_l0_ok {mL : Int} {Q : AExit → St → Prop} {u_ : TJUrl} {K0_ : Tx → Option Tx} {k : Nat} {out : Tx} {v12 : Int} {zout : Bool} (hzout : zout = true → out = []) {o : Tx} (h : url_text_l0 u_ K0_ k out v12 = some o)
  (hK0 : ∀ (out1 : Tx) (zout1 : Bool) (_ : zout1 = true → out1 = []), K0_ out1 = some o → ∀ s, Weak 0 s ⟨(upd (upd e0 1 (some (.c (.ref 0 8 0 0)))) 3 (some (.c (.ref 1 2 0 0)))), (upd (upd (upd e0 0 (some (.cells 8 [[.str u_.Scheme, .str u_.Host, cI u_.Port, .ro false 1 (u_.Path.map eStr), .str u_.Query, cB u_.Asks, .str u_.Fragment, cB u_.Points]]))) 1 (some (.bld 76 zout1 2 out1.length))) 2 (bufB zout1 5 out1)), 3⟩ → Q (.exit 0) s)
  (hr : ∀ s, Ends a37.results 0 (url_text_post o) .ret s → Q .ret s) :
  Sv Tryz.prog (GG mL) 0 (.loop a37_c0) Q ⟨(upd (upd (upd (upd (upd e0 1 (some (.c (.ref 0 8 0 0)))) 3 (some (.c (.ref 1 2 0 0)))) 10 (some (.c (.ro false 1 (u_.Path.map eStr))))) 11 (some (I (u_.Path.length : Int)))) 12 (some (I v12))), (upd (upd (upd e0 0 (some (.cells 8 [[.str u_.Scheme, .str u_.Host, cI u_.Port, .ro false 1 (u_.Path.map eStr), .str u_.Query, cB u_.Asks, .str u_.Fragment, cB u_.Points]]))) 1 (some (.bld 76 zout 2 out.length))) 2 (bufB zout 5 out)), 3⟩ := by
 refine Sv.loop (I := fun k s => ∃ (out : Tx), ∃ (v12 : Int), ∃ (zout : Bool), (zout = true → out = []) ∧ url_text_l0 u_ K0_ k out v12 = some o ∧ s = ⟨(upd (upd (upd (upd (upd e0 1 (some (.c (.ref 0 8 0 0)))) 3 (some (.c (.ref 1 2 0 0)))) 10 (some (.c (.ro false 1 (u_.Path.map eStr))))) 11 (some (I (u_.Path.length : Int)))) 12 (some (I v12))), (upd (upd (upd e0 0 (some (.cells 8 [[.str u_.Scheme, .str u_.Host, cI u_.Port, .ro false 1 (u_.Path.map eStr), .str u_.Query, cB u_.Asks, .str u_.Fragment, cB u_.Points]]))) 1 (some (.bld 76 zout 2 out.length))) 2 (bufB zout 5 out)), 3⟩) (fun k s hI => ?_) ⟨out, v12, zout, hzout, h, rfl⟩
 clear h
 clear hzout zout v12 out
 obtain ⟨out, v12, zout, hzout, h, rfl⟩ := hI
 cases k with
 | zero => cases h
 | succ k =>
 rw [url_text_l0] at h
 have hself : ∀ (out : Tx) (v12 : Int) (zout : Bool) (_ : zout = true → out = []), (url_text_l0 u_ K0_ k) out v12 = some o → ∀ s, Weak 0 s ⟨(upd (upd (upd (upd (upd e0 1 (some (.c (.ref 0 8 0 0)))) 3 (some (.c (.ref 1 2 0 0)))) 10 (some (.c (.ro false 1 (u_.Path.map eStr))))) 11 (some (I (u_.Path.length : Int)))) 12 (some (I v12))), (upd (upd (upd e0 0 (some (.cells 8 [[.str u_.Scheme, .str u_.Host, cI u_.Port, .ro false 1 (u_.Path.map eStr), .str u_.Query, cB u_.Asks, .str u_.Fragment, cB u_.Points]]))) 1 (some (.bld 76 zout 2 out.length))) 2 (bufB zout 5 out)), 3⟩ → (AThen (fun s' => ∃ s'' k', Weak 0 s' s'' ∧ k' < k + 1 ∧ (fun k s => ∃ (out : Tx), ∃ (v12 : Int), ∃ (zout : Bool), (zout = true → out = []) ∧ url_text_l0 u_ K0_ k out v12 = some o ∧ s = ⟨(upd (upd (upd (upd (upd e0 1 (some (.c (.ref 0 8 0 0)))) 3 (some (.c (.ref 1 2 0 0)))) 10 (some (.c (.ro false 1 (u_.Path.map eStr))))) 11 (some (I (u_.Path.length : Int)))) 12 (some (I v12))), (upd (upd (upd e0 0 (some (.cells 8 [[.str u_.Scheme, .str u_.Host, cI u_.Port, .ro false 1 (u_.Path.map eStr), .str u_.Query, cB u_.Asks, .str u_.Fragment, cB u_.Points]]))) 1 (some (.bld 76 zout 2 out.length))) 2 (bufB zout 5 out)), 3⟩) k' s'') Q) .normal s := fun out v12 zout hzout h s hw => ⟨_, k, hw, Nat.lt_succ_self k, out, v12, zout, hzout, h, rfl⟩
 refine ssr <| un1 (v := (B (decide (v12 < (u_.Path.length : Int))))) rfl <| dnil <| Sv.seq ?_
 refine Sv.cond (b := decide (v12 < (u_.Path.length : Int))) rfl (fun hc1 => ?_) (fun hc1 => ?_)
 ·replace h := ifT hc1 h
  refine Sv.skip <| Sv.seq <| Sv.block <| ssr ?_
  obtain ⟨x_, hx1, h⟩ := bnd h
  refine un1 (v := (.c (.rop [.str x_]))) (s_iaddr (e := eStr) (xs := u_.Path) rfl rfl hx1) <| un1 (v := (S x_)) rfl <| un1 rfl <| dnil <| srg <| un1 rfl ?_
  obtain ⟨r_2, hr3, h⟩ := bnd h
  refine un <| ac_pure (url_Encode_ok hr3) rfl rfl rfl ?_
  obtain ⟨r_3, hx2, h⟩ := bnd h
  refine un1 (v := (S r_3)) (s_cat rfl rfl hx2) ?_
  obtain ⟨r_4, hr4, h⟩ := bnd h
  refine un <| ac_gen (bs := [1, 2]) («as» := [(.c (.ref 1 2 0 0)), (S r_3)]) (h2 := _) (h1 := (upd (upd e0 1 (some (.bld 76 zout 2 out.length))) 2 (bufB zout 5 out))) (sb_WriteString_ok (z := zout) (l := out) hzout hr4) rfl (.cons (.c (.ref rfl (by decide))) (.cons (avAs_free rfl) .nil)) (hsub_refl _) (.cons rfl (.cons rfl (.nil _))) (fun h => by cases h) (by decide) (by decide) (.cons (.c (.ref rfl (by decide))) (.cons (avAs_free rfl) .nil)) (.buf (by decide) rfl (.box (by decide) rfl (.bld rfl (by decide)) .nil)) ?_
  rintro _ _ _ hn ⟨z_1, hz_1, rfl, rfl, rfl⟩
  refine ⟨.inl rfl, (upd (upd (rem [1, 2] _) 1 (some (.bld 76 z_1 3 r_4.length))) 3 (bufB z_1 5 r_4)), fun hbd => (m3_cons (m3_buf rfl) (m3_cons (m3_box rfl rfl) (m3_rem (in_cons (by decide) (in_cons (by decide) (in_nil _))) (.cons (by decide) (.cons (by decide) .nil)) hbd))), (.tup [(I (r_3.length : Int)), (.c (.val .nilIface))]), 4, (by cases z_1 <;> rfl), rfl, ?_⟩
  refine dnil <| srg <| un1 (v := (I (wi (v12 + 1)))) rfl <| un1 rfl <| dnil ?_
  exact hself r_4 (wi (v12 + 1)) z_1 hz_1 h _ (wcn [0, 1, 3] rfl (.cf rfl rfl (.cf rfl rfl (.cf rfl rfl (.cons rfl (.c (.ref rfl (by decide))) (.cons rfl (.c (.ref rfl (by decide))) .nil))))) (.buf (by decide) rfl (.box (by decide) rfl (.bld rfl (by decide)) (.box (by decide) rfl (blkAs_cells (.sm rfl (.sm rfl (.sm rfl (.sm rfl (.sm rfl (.sm rfl (.sm rfl (.sm rfl .nil))))))))) .nil))))
 ·replace h := ifF hc1 h
  refine Sv.exit ?_
  exact hK0 out zout hzout h _ (wcn [0, 1, 2] rfl (.cons rfl (.c (.ref rfl (by decide))) (.cons rfl (.c (.ref rfl (by decide))) .nil)) (.buf (by decide) rfl (.box (by decide) rfl (.bld rfl (by decide)) (.box (by decide) rfl (blkAs_cells (.sm rfl (.sm rfl (.sm rfl (.sm rfl (.sm rfl (.sm rfl (.sm rfl (.sm rfl .nil))))))))) .nil))))
noncomputable def url_text_j2 (out3 : Tx) : Option Tx :=
 some out3
theorem url_text_j2_ok {mL : Int} {out3 : Tx} {zout3 : Bool} (hzout3 : zout3 = true → out3 = []) {o : Tx} (h : url_text_j2 out3 = some o) :
  Sv Tryz.prog (GG mL) 0 a37_c2 (Ends a37.results 0 (url_text_post o)) ⟨(upd e0 3 (some (.c (.ref 0 2 0 0)))), (upd (upd e0 0 (some (.bld 76 zout3 1 out3.length))) 1 (bufB zout3 5 out3)), 2⟩ := by
 unfold url_text_j2 at h
 refine ssr <| un <| ac_gen (bs := [0, 1]) («as» := [(.c (.ref 0 2 0 0))]) (h2 := _) (h1 := (upd (upd e0 0 (some (.bld 76 zout3 1 out3.length))) 1 (bufB zout3 5 out3))) (sb_String_ok (z := zout3) (l := out3) hzout3) rfl (.cons (.c (.ref rfl (by decide))) .nil) (hsub_refl _) (.cons rfl (.cons rfl (.nil _))) (fun h => by cases h) (by decide) (by decide) (.cons (.c (.ref rfl (by decide))) .nil) (.buf (by decide) rfl (.box (by decide) rfl (.bld rfl (by decide)) .nil)) ?_
 rintro _ _ _ hn ⟨rfl, rfl, rfl⟩
 refine ⟨.inl rfl, (rem [0, 1] _), fun hbd => (m3_rem (in_cons (by decide) (in_cons (by decide) (in_nil _))) (.nil) hbd), (S out3), 2, rfl, rfl, ?_⟩
 refine un1 rfl <| dnil <| Sv.ret ?_
 replace h := Option.some.inj h
 subst h
 exact ⟨_, .refl _, _, rfl, ⟨upd e0 0 (some (S out3)), e0, 0⟩, (S out3), weak_canon [] rfl List.nodup_nil (Nat.le_refl _) nlz (.cf rfl rfl .nil) .nil, rfl, rfl, rfl, rfl⟩
noncomputable def url_text_j1 (u_ : TJUrl) (out2 : Tx) : Option Tx :=
 if u_.Points then
  (cat? [35] u_.Fragment).bind fun r_5 =>
  (sb_WriteString out2 r_5).bind fun r_6 =>
  url_text_j2 r_6
 else
  url_text_j2 out2
theorem url_text_j1_ok {mL : Int} {u_ : TJUrl} {out2 : Tx} {zout2 : Bool} (hzout2 : zout2 = true → out2 = []) {o : Tx} (h : url_text_j1 u_ out2 = some o) :
  Sv Tryz.prog (GG mL) 0 a37_c1 (Ends a37.results 0 (url_text_post o)) ⟨(upd (upd e0 1 (some (.c (.ref 0 8 0 0)))) 3 (some (.c (.ref 1 2 0 0)))), (upd (upd (upd e0 0 (some (.cells 8 [[.str u_.Scheme, .str u_.Host, cI u_.Port, .ro false 1 (u_.Path.map eStr), .str u_.Query, cB u_.Asks, .str u_.Fragment, cB u_.Points]]))) 1 (some (.bld 76 zout2 2 out2.length))) 2 (bufB zout2 5 out2)), 3⟩ := by
 unfold url_text_j1 at h
 refine Sv.seq <| ssr <| un1 (v := (.c (.ref 0 8 0 7))) rfl <| un1 (v := (B u_.Points)) rfl <| dnil ?_
 refine Sv.cond (b := u_.Points) rfl (fun hc2 => ?_) (fun hc2 => ?_)
 ·replace h := ifT hc2 h
  refine srg <| un1 (v := (.c (.ref 0 8 0 6))) rfl <| un1 (v := (S u_.Fragment)) rfl ?_
  obtain ⟨r_5, hx3, h⟩ := bnd h
  refine un1 (v := (S r_5)) (s_cat rfl rfl hx3) ?_
  obtain ⟨r_6, hr5, h⟩ := bnd h
  refine un <| ac_gen (bs := [1, 2]) («as» := [(.c (.ref 1 2 0 0)), (S r_5)]) (h2 := _) (h1 := (upd (upd e0 1 (some (.bld 76 zout2 2 out2.length))) 2 (bufB zout2 5 out2))) (sb_WriteString_ok (z := zout2) (l := out2) hzout2 hr5) rfl (.cons (.c (.ref rfl (by decide))) (.cons (avAs_free rfl) .nil)) (hsub_refl _) (.cons rfl (.cons rfl (.nil _))) (fun h => by cases h) (by decide) (by decide) (.cons (.c (.ref rfl (by decide))) (.cons (avAs_free rfl) .nil)) (.buf (by decide) rfl (.box (by decide) rfl (.bld rfl (by decide)) .nil)) ?_
  rintro _ _ _ hn ⟨z_2, hz_2, rfl, rfl, rfl⟩
  refine ⟨.inl rfl, (upd (upd (rem [1, 2] _) 1 (some (.bld 76 z_2 3 r_6.length))) 3 (bufB z_2 5 r_6)), fun hbd => (m3_cons (m3_buf rfl) (m3_cons (m3_box rfl rfl) (m3_rem (in_cons (by decide) (in_cons (by decide) (in_nil _))) (.cons (by decide) (.cons (by decide) .nil)) hbd))), (.tup [(I (r_5.length : Int)), (.c (.val .nilIface))]), 4, (by cases z_2 <;> rfl), rfl, ?_⟩
  refine dnil ?_
  exact Sv.weak (wcn [1, 3] rfl (.cons rfl (.c (.ref rfl (by decide))) .nil) (.buf (by decide) rfl (.box (by decide) rfl (.bld rfl (by decide)) .nil))) (url_text_j2_ok hz_2 h)
 ·replace h := ifF hc2 h
  refine Sv.skip ?_
  exact Sv.weak (wcn [1, 2] rfl (.cons rfl (.c (.ref rfl (by decide))) .nil) (.buf (by decide) rfl (.box (by decide) rfl (.bld rfl (by decide)) .nil))) (url_text_j2_ok hzout2 h)
/-- clerestory/url.text -/
noncomputable def url_text (u_ : TJUrl) : Option Tx :=
 (url_origin u_).bind fun r_ =>
 (sb_WriteString ([] : List UInt8) r_).bind fun r_1 =>
 lim fun kk => url_text_l0 u_ (fun (out1 : Tx) => 
   if u_.Asks then
    (cat? [63] u_.Query).bind fun r_7 =>
    (sb_WriteString out1 r_7).bind fun r_8 =>
    url_text_j1 u_ r_8
   else
    url_text_j1 u_ out1) kk r_1 0
theorem url_text_ok {mL : Int} {u_ : TJUrl} {r : Tx} (h : url_text u_ = some r) : CPure Tryz.prog (GG mL) 37 [(.agg [.str u_.Scheme, .str u_.Host, cI u_.Port, .ro false 1 (u_.Path.map eStr), .str u_.Query, cB u_.Asks, .str u_.Fragment, cB u_.Points])] (S r) := by
 refine acalls_of_sv hmix c37 (R := url_text_post r) ?_
 unfold url_text at h
 refine ssr <| un <| a2v (v := (.c (.ref 0 8 0 0))) (h' := upd _ 0 (some (.cells 8 [[.str u_.Scheme, .str u_.Host, cI u_.Port, .ro false 1 (u_.Path.map eStr), .str u_.Query, cB u_.Asks, .str u_.Fragment, cB u_.Points]]))) (n' := 1) rfl rfl (fun h => by cases h) <| un1 rfl <| dnil <| ssr <| un <| a2v (v := (.c (.ref 2 2 0 0))) (h' := upd _ 2 (some (.bld 76 true 1 ([] : List UInt8).length))) (n' := 3) rfl rfl (fun h => by cases h) <| dnil <| ssr <| un1 (v := (.agg [.str u_.Scheme, .str u_.Host, cI u_.Port, .ro false 1 (u_.Path.map eStr), .str u_.Query, cB u_.Asks, .str u_.Fragment, cB u_.Points])) rfl ?_
 obtain ⟨r_, hr1, h⟩ := bnd h
 refine un <| ac_pure (url_origin_ok hr1) rfl rfl rfl ?_
 obtain ⟨r_1, hr2, h⟩ := bnd h
 refine un <| ac_gen (bs := [2, 1]) («as» := [(.c (.ref 2 2 0 0)), (S r_)]) (h2 := _) (h1 := (upd e0 2 (some (.bld 76 true 1 ([] : List UInt8).length)))) (sb_WriteString_ok (z := true) (l := ([] : List UInt8)) (fun _ => rfl) hr2) rfl (.cons (.c (.ref rfl (by decide))) (.cons (avAs_free rfl) .nil)) (hsub_refl _) (.cons rfl (.nil _)) (fun h => by cases h) (by decide) (by decide) (.cons (.c (.ref rfl (by decide))) (.cons (avAs_free rfl) .nil)) (.nonB (by decide) (.box (by decide) rfl (.bldN (by decide)) .nil)) ?_
 rintro _ _ _ hn ⟨z_, hz_, rfl, rfl, rfl⟩
 refine ⟨.inl rfl, (upd (upd (rem [2, 1] _) 2 (some (.bld 76 z_ 3 r_1.length))) 3 (bufB z_ 5 r_1)), fun hbd => (m3_cons (m3_buf rfl) (m3_cons (m3_box rfl rfl) (m3_rem (in_cons (by decide) (in_nil _)) (.cons (by decide) (.cons (by decide) .nil)) hbd))), (.tup [(I (r_.length : Int)), (.c (.val .nilIface))]), 4, (by cases z_ <;> rfl), rfl, ?_⟩
 refine dnil <| Sv.seq <| ssr <| un1 (v := (.c (.ref 0 8 0 3))) rfl <| un1 (v := (.c (.ro false 1 (u_.Path.map eStr)))) rfl <| un1 (v := (I (u_.Path.length : Int))) (s_len (e := eStr) (xs := u_.Path) rfl) <| un1 rfl <| dnil <| Sv.block ?_
 obtain ⟨kk, h⟩ := lim_some h
 refine Sv.weak (wcn [0, 2, 3] rfl (.cf rfl rfl (.cf rfl rfl (.cf rfl rfl (.cons rfl (.c (.ref rfl (by decide))) (.cons rfl (.c (.ref rfl (by decide))) .nil))))) (.buf (by decide) rfl (.box (by decide) rfl (.bld rfl (by decide)) (.box (by decide) rfl (blkAs_cells (.sm rfl (.sm rfl (.sm rfl (.sm rfl (.sm rfl (.sm rfl (.sm rfl (.sm rfl .nil))))))))) .nil)))) (url_text_l0_ok hz_ h ?_ (fun s hs => hs))
 ·intro out1 zout1 hzout1 h _ hw1
  refine Sv.weak hw1 <| Sv.seq <| ssr <| un1 (v := (.c (.ref 0 8 0 5))) rfl <| un1 (v := (B u_.Asks)) rfl <| dnil ?_
  refine Sv.cond (b := u_.Asks) rfl (fun hc3 => ?_) (fun hc3 => ?_)
  ·replace h := ifT hc3 h
   refine srg <| un1 (v := (.c (.ref 0 8 0 4))) rfl <| un1 (v := (S u_.Query)) rfl ?_
   obtain ⟨r_7, hx4, h⟩ := bnd h
   refine un1 (v := (S r_7)) (s_cat rfl rfl hx4) ?_
   obtain ⟨r_8, hr6, h⟩ := bnd h
   refine un <| ac_gen (bs := [1, 2]) («as» := [(.c (.ref 1 2 0 0)), (S r_7)]) (h2 := _) (h1 := (upd (upd e0 1 (some (.bld 76 zout1 2 out1.length))) 2 (bufB zout1 5 out1))) (sb_WriteString_ok (z := zout1) (l := out1) hzout1 hr6) rfl (.cons (.c (.ref rfl (by decide))) (.cons (avAs_free rfl) .nil)) (hsub_refl _) (.cons rfl (.cons rfl (.nil _))) (fun h => by cases h) (by decide) (by decide) (.cons (.c (.ref rfl (by decide))) (.cons (avAs_free rfl) .nil)) (.buf (by decide) rfl (.box (by decide) rfl (.bld rfl (by decide)) .nil)) ?_
   rintro _ _ _ hn ⟨z_3, hz_3, rfl, rfl, rfl⟩
   refine ⟨.inl rfl, (upd (upd (rem [1, 2] _) 1 (some (.bld 76 z_3 3 r_8.length))) 3 (bufB z_3 5 r_8)), fun hbd => (m3_cons (m3_buf rfl) (m3_cons (m3_box rfl rfl) (m3_rem (in_cons (by decide) (in_cons (by decide) (in_nil _))) (.cons (by decide) (.cons (by decide) .nil)) hbd))), (.tup [(I (r_7.length : Int)), (.c (.val .nilIface))]), 4, (by cases z_3 <;> rfl), rfl, ?_⟩
   refine dnil ?_
   exact Sv.weak (wcn [0, 1, 3] rfl (.cons rfl (.c (.ref rfl (by decide))) (.cons rfl (.c (.ref rfl (by decide))) .nil)) (.buf (by decide) rfl (.box (by decide) rfl (.bld rfl (by decide)) (.box (by decide) rfl (blkAs_cells (.sm rfl (.sm rfl (.sm rfl (.sm rfl (.sm rfl (.sm rfl (.sm rfl (.sm rfl .nil))))))))) .nil)))) (url_text_j1_ok hz_3 h)
  ·replace h := ifF hc3 h
   refine Sv.skip ?_
   exact Sv.weak (wcn [0, 1, 2] rfl (.cons rfl (.c (.ref rfl (by decide))) (.cons rfl (.c (.ref rfl (by decide))) .nil)) (.buf (by decide) rfl (.box (by decide) rfl (.bld rfl (by decide)) (.box (by decide) rfl (blkAs_cells (.sm rfl (.sm rfl (.sm rfl (.sm rfl (.sm rfl (.sm rfl (.sm rfl (.sm rfl .nil))))))))) .nil)))) (url_text_j1_ok hzout1 h)
def a15_c0 : ACode := (.seq (.seq (.region [(mV 53 7), ⟨(some 54), (.bin .neq (.tmp 53) (kI 0)), none⟩])
 (.cond (.tmp 54) (.seq (.region [(mV 55 7), ⟨(some 4), (.mov (.const (.c (.str [])))), none⟩, (mV 5 55)])
 .ret) .skip))
 (.seq (.region [(oP 56 (.load true 8 (.tmp 8))), (oP 57 (.call 37 [(.tmp 56)])), (mV 12 57)])
 (.seq (.seq (.region [(mV 58 12), (oP 59 (.lenS (.tmp 58))), ⟨(some 60), (.bin .gtr (.tmp 59) (kI 500)), none⟩])
 (.cond (.tmp 60) (.seq (.region [⟨(some 4), (.mov (.const (.c (.str [])))), none⟩, ⟨(some 5), (.mov (kI 2)), none⟩])
 .ret) .skip))
 (.seq (.region [(mV 61 12), (mV 4 61), ⟨(some 5), (.mov (kI 0)), none⟩])
 .ret))))
def a15 : AFunc := ⟨2, [(.tmp 4), (.tmp 5)], (.seq (.region [⟨(some 4), (.mov (.const (.c (.str [])))), none⟩, ⟨(some 5), (.mov (kI 0)), none⟩])
 (.seq (.region [(mV 14 0), (oP 15 (.call 6 [(.tmp 14)])), (mV 13 15), (oP 16 (.ext (.tmp 13) 0)), (oP 17 (.ext (.tmp 13) 1)), ⟨(some 6), (.box (.const (.agg [(.str []), (.str []), (.val (.int .i64 0)), (.ro true 1 []), (.str []), (.val (.bool false)), (.str []), (.val (.bool false))]))), none⟩, ⟨none, (.store 8 (.tmp 6) (.tmp 16)), none⟩, (mV 7 17)])
 (.seq (.seq (.region [(mV 18 7), ⟨(some 19), (.bin .neq (.tmp 18) (kI 0)), none⟩])
 (.cond (.tmp 19) (.seq (.region [(mV 20 7), ⟨(some 4), (.mov (.const (.c (.str [])))), none⟩, (mV 5 20)])
 .ret) .skip))
 (.seq (.seq (.region [(mV 21 1), (oP 22 (.lenS (.tmp 21))), ⟨(some 23), (.bin .gtr (.tmp 22) (kI 500)), none⟩])
 (.cond (.tmp 23) (.seq (.region [⟨(some 4), (.mov (.const (.c (.str [])))), none⟩, ⟨(some 5), (.mov (kI 2)), none⟩])
 .ret) .skip))
 (.seq (.region [⟨(some 8), (.box (.const (.agg [(.str []), (.str []), (.val (.int .i64 0)), (.ro true 1 []), (.str []), (.val (.bool false)), (.str []), (.val (.bool false))]))), none⟩])
 (.seq (.seq (.region [(mV 25 1), (oP 26 (.call 17 [(.tmp 25)])), (mV 24 26), (oP 27 (.ext (.tmp 24) 0)), (oP 28 (.ext (.tmp 24) 1)), (oP 29 (.ext (.tmp 24) 2)), (mV 9 27), (mV 10 28), (mV 11 29)])
 (.seq (.region [(mV 30 11)])
 (.cond (.tmp 30) (.region [(mV 32 1), (oP 33 (.call 6 [(.tmp 32)])), (mV 31 33), (oP 34 (.ext (.tmp 31) 0)), (oP 35 (.ext (.tmp 31) 1)), ⟨none, (.store 8 (.tmp 8) (.tmp 34)), none⟩, (mV 7 35)]) (.seq (.region [(mV 36 1), ⟨(some 37), (.call 28 [(.tmp 36), (.const (.c (.str [47, 47])))]), none⟩])
 (.cond (.tmp 37) (.region [(oP 39 (.faddr 0 (.tmp 6))), (oP 40 (.load false 1 (.tmp 39))), ⟨(some 41), (.bin .add (.tmp 40) (.const (.c (.str [58])))), none⟩, (mV 42 1), (oP 43 (.bin .add (.tmp 41) (.tmp 42))), (oP 44 (.call 6 [(.tmp 43)])), (mV 38 44), (oP 45 (.ext (.tmp 38) 0)), (oP 46 (.ext (.tmp 38) 1)), ⟨none, (.store 8 (.tmp 8) (.tmp 45)), none⟩, (mV 7 46)]) (.region [(oP 48 (.load true 8 (.tmp 6))), (mV 49 1), (oP 50 (.call 40 [(.tmp 48), (.tmp 49)])), (mV 47 50), (oP 51 (.ext (.tmp 47) 0)), (oP 52 (.ext (.tmp 47) 1)), ⟨none, (.store 8 (.tmp 8) (.tmp 51)), none⟩, (mV 7 52)]))))))
 a15_c0))))))⟩
set_option maxRecDepth 100000 in
theorem c15 : compFunc Tryz.prog 15 = some a15 := by kernel_rfl
def url_Resolve_post (r : (Tx × Int)) : AV → Heap → Nat → Prop := fun v h' n' => v = (.tup [(S r.1), (I r.2)]) ∧ (h' = e0) ∧ n' = 0
noncomputable def url_Resolve_j1 (e_ : Int) (u0 : Tx) (u1 : Tx) (u2 : Int) (u3 : TT) (u4 : Tx) (u5 : Bool) (u6 : Tx) (u7 : Bool) : Option (Tx × Int) :=
 if (!decide (e_ = 0)) then
  some ([], e_)
 else
  (url_text (⟨u0, u1, u2, u3, u4, u5, u6, u7⟩ : TJUrl)).bind fun r_1 =>
  if decide (500 < (r_1.length : Int)) then
   some ([], 2)
  else
   some (r_1, 0)
theorem url_Resolve_j1_ok {mL : Int} {e_ : Int} {u0 : Tx} {u1 : Tx} {u2 : Int} {u3 : TT} {u4 : Tx} {u5 : Bool} {u6 : Tx} {u7 : Bool} {o : (Tx × Int)} (h : url_Resolve_j1 e_ u0 u1 u2 u3 u4 u5 u6 u7 = some o) :
  Sv Tryz.prog (GG mL) 0 a15_c0 (Ends a15.results 0 (url_Resolve_post o)) ⟨(upd (upd e0 7 (some (I e_))) 8 (some (.c (.ref 0 8 0 0)))), (upd e0 0 (some (.cells 8 [[.str u0, .str u1, cI u2, .ro false 1 (u3.map eStr), .str u4, cB u5, .str u6, cB u7]]))), 1⟩ := by
 unfold url_Resolve_j1 at h
 refine Sv.seq <| ssr <| un1 rfl <| un1 (v := (B (!decide (e_ = 0)))) rfl <| dnil ?_
 refine Sv.cond (b := (!decide (e_ = 0))) rfl (fun hc3 => ?_) (fun hc3 => ?_)
 ·replace h := ifT hc3 h
  refine ssr <| un1 rfl <| un1 rfl <| un1 rfl <| dnil <| Sv.ret ?_
  replace h := Option.some.inj h
  subst h
  exact ⟨_, .refl _, _, rfl, ⟨upd e0 0 (some (.tup [(S []), (I e_)])), e0, 0⟩, (.tup [(S []), (I e_)]), weak_canon [] rfl List.nodup_nil (Nat.le_refl _) nlz (.cons rfl (avAs_tup (.cons (avAs_free rfl) (.cons (avAs_free rfl) .nil))) .nil) .nil, rfl, rfl, rfl, rfl⟩
 ·replace h := ifF hc3 h
  refine Sv.skip <| ssr <| un1 (v := (.agg [.str u0, .str u1, cI u2, .ro false 1 (u3.map eStr), .str u4, cB u5, .str u6, cB u7])) rfl ?_
  obtain ⟨r_1, hr2, h⟩ := bnd h
  refine un <| ac_pure (url_text_ok hr2) rfl rfl rfl <| un1 rfl <| dnil <| Sv.seq <| ssr <| un1 rfl <| un1 (v := (I (r_1.length : Int))) rfl <| un1 (v := (B (decide (500 < (r_1.length : Int))))) rfl <| dnil ?_
  refine Sv.cond (b := decide (500 < (r_1.length : Int))) rfl (fun hc4 => ?_) (fun hc4 => ?_)
  ·replace h := ifT hc4 h
   refine ssr <| un1 rfl <| un1 rfl <| dnil <| Sv.ret ?_
   replace h := Option.some.inj h
   subst h
   exact ⟨_, .refl _, _, rfl, ⟨upd e0 0 (some (.tup [(S []), (I 2)])), e0, 0⟩, (.tup [(S []), (I 2)]), weak_canon [] rfl List.nodup_nil (Nat.le_refl _) nlz (.cons rfl (avAs_tup (.cons (avAs_free rfl) (.cons (avAs_free rfl) .nil))) .nil) .nil, rfl, rfl, rfl, rfl⟩
  ·replace h := ifF hc4 h
   refine Sv.skip <| ssr <| un1 rfl <| un1 rfl <| un1 rfl <| dnil <| Sv.ret ?_
   replace h := Option.some.inj h
   subst h
   exact ⟨_, .refl _, _, rfl, ⟨upd e0 0 (some (.tup [(S r_1), (I 0)])), e0, 0⟩, (.tup [(S r_1), (I 0)]), weak_canon [] rfl List.nodup_nil (Nat.le_refl _) nlz (.cons rfl (avAs_tup (.cons (avAs_free rfl) (.cons (avAs_free rfl) .nil))) .nil) .nil, rfl, rfl, rfl, rfl⟩
/-- clerestory/url.Resolve -/
noncomputable def url_Resolve (base : Tx) (ref : Tx) : Option (Tx × Int) :=
 (url_Parse base).bind fun r_ =>
 if (!decide (r_.2 = 0)) then
  some ([], r_.2)
 else
  if decide (500 < (ref.length : Int)) then
   some ([], 2)
  else
   (url_scheme ref).bind fun r_2 =>
   if r_2.2.2 then
    (url_Parse ref).bind fun r_3 =>
    url_Resolve_j1 r_3.2 r_3.1.Scheme r_3.1.Host r_3.1.Port r_3.1.Path r_3.1.Query r_3.1.Asks r_3.1.Fragment r_3.1.Points
   else
    (strings_HasPrefix ref [47, 47]).bind fun r_4 =>
    if r_4 then
     (cat? r_.1.Scheme [58]).bind fun r_5 =>
     (cat? r_5 ref).bind fun r_6 =>
     (url_Parse r_6).bind fun r_7 =>
     url_Resolve_j1 r_7.2 r_7.1.Scheme r_7.1.Host r_7.1.Port r_7.1.Path r_7.1.Query r_7.1.Asks r_7.1.Fragment r_7.1.Points
    else
     (url_beside r_.1 ref).bind fun r_8 =>
     url_Resolve_j1 r_8.2 r_8.1.Scheme r_8.1.Host r_8.1.Port r_8.1.Path r_8.1.Query r_8.1.Asks r_8.1.Fragment r_8.1.Points
theorem url_Resolve_ok {mL : Int} {base : Tx} {ref : Tx} {r : (Tx × Int)} (h : url_Resolve base ref = some r) : CPure Tryz.prog (GG mL) 15 [(S base), (S ref)] (.tup [(S r.1), (I r.2)]) := by
 refine acalls_of_sv hmix c15 (R := url_Resolve_post r) ?_
 unfold url_Resolve at h
 refine ssr <| un1 rfl <| un1 rfl <| dnil <| ssr <| un1 rfl ?_
 obtain ⟨r_, hr1, h⟩ := bnd h
 refine un <| ac_pure (url_Parse_ok hr1) rfl rfl rfl <| un1 rfl <| un1 (v := (.agg [.str r_.1.Scheme, .str r_.1.Host, cI r_.1.Port, .ro false 1 (r_.1.Path.map eStr), .str r_.1.Query, cB r_.1.Asks, .str r_.1.Fragment, cB r_.1.Points])) rfl <| un1 (v := (I r_.2)) rfl <| un <| a2v (v := (.c (.ref 0 8 0 0))) (h' := upd _ 0 (some (.cells 8 [[.str [], .str [], cI 0, .ro true 1 [], .str [], cB false, .str [], cB false]]))) (n' := 1) rfl rfl (fun h => by cases h) <| un <| a2n (h' := upd _ 0 (some (.cells 8 [[.str r_.1.Scheme, .str r_.1.Host, cI r_.1.Port, .ro false 1 (r_.1.Path.map eStr), .str r_.1.Query, cB r_.1.Asks, .str r_.1.Fragment, cB r_.1.Points]]))) (n' := 1) rfl rfl (fun h => by cases h) <| un1 rfl <| dnil <| Sv.seq <| ssr <| un1 rfl <| un1 (v := (B (!decide (r_.2 = 0)))) rfl <| dnil ?_
 refine Sv.cond (b := (!decide (r_.2 = 0))) rfl (fun hc1 => ?_) (fun hc1 => ?_)
 ·replace h := ifT hc1 h
  refine ssr <| un1 rfl <| un1 rfl <| un1 rfl <| dnil <| Sv.ret ?_
  replace h := Option.some.inj h
  subst h
  exact ⟨_, .refl _, _, rfl, ⟨upd e0 0 (some (.tup [(S []), (I r_.2)])), e0, 0⟩, (.tup [(S []), (I r_.2)]), weak_canon [] rfl List.nodup_nil (Nat.le_refl _) nlz (.cons rfl (avAs_tup (.cons (avAs_free rfl) (.cons (avAs_free rfl) .nil))) .nil) .nil, rfl, rfl, rfl, rfl⟩
 ·replace h := ifF hc1 h
  refine Sv.skip <| Sv.seq <| ssr <| un1 rfl <| un1 (v := (I (ref.length : Int))) rfl <| un1 (v := (B (decide (500 < (ref.length : Int))))) rfl <| dnil ?_
  refine Sv.cond (b := decide (500 < (ref.length : Int))) rfl (fun hc2 => ?_) (fun hc2 => ?_)
  ·replace h := ifT hc2 h
   refine ssr <| un1 rfl <| un1 rfl <| dnil <| Sv.ret ?_
   replace h := Option.some.inj h
   subst h
   exact ⟨_, .refl _, _, rfl, ⟨upd e0 0 (some (.tup [(S []), (I 2)])), e0, 0⟩, (.tup [(S []), (I 2)]), weak_canon [] rfl List.nodup_nil (Nat.le_refl _) nlz (.cons rfl (avAs_tup (.cons (avAs_free rfl) (.cons (avAs_free rfl) .nil))) .nil) .nil, rfl, rfl, rfl, rfl⟩
  ·replace h := ifF hc2 h
   refine Sv.skip <| ssr <| un <| a2v (v := (.c (.ref 1 8 0 0))) (h' := upd _ 1 (some (.cells 8 [[.str [], .str [], cI 0, .ro true 1 [], .str [], cB false, .str [], cB false]]))) (n' := 2) rfl rfl (fun h => by cases h) <| dnil <| Sv.seq <| ssr <| un1 rfl ?_
   obtain ⟨r_2, hr3, h⟩ := bnd h
   refine un <| ac_pure (url_scheme_ok hr3) rfl rfl rfl <| un1 rfl <| un1 (v := (S r_2.1)) rfl <| un1 (v := (S r_2.2.1)) rfl <| un1 (v := (B r_2.2.2)) rfl <| un1 rfl <| un1 rfl <| un1 rfl <| dnil <| ssr <| un1 rfl <| dnil ?_
   refine Sv.cond (b := r_2.2.2) rfl (fun hc5 => ?_) (fun hc5 => ?_)
   ·replace h := ifT hc5 h
    refine srg <| un1 rfl ?_
    obtain ⟨r_3, hr4, h⟩ := bnd h
    refine un <| ac_pure (url_Parse_ok hr4) rfl rfl rfl <| un1 rfl <| un1 (v := (.agg [.str r_3.1.Scheme, .str r_3.1.Host, cI r_3.1.Port, .ro false 1 (r_3.1.Path.map eStr), .str r_3.1.Query, cB r_3.1.Asks, .str r_3.1.Fragment, cB r_3.1.Points])) rfl <| un1 (v := (I r_3.2)) rfl <| un <| a2n (h' := upd _ 1 (some (.cells 8 [[.str r_3.1.Scheme, .str r_3.1.Host, cI r_3.1.Port, .ro false 1 (r_3.1.Path.map eStr), .str r_3.1.Query, cB r_3.1.Asks, .str r_3.1.Fragment, cB r_3.1.Points]]))) (n' := 2) rfl rfl (fun h => by cases h) <| un1 rfl <| dnil ?_
    exact Sv.weak (wcn [1] rfl (.cons rfl (.c (.ref rfl (by decide))) (.cf rfl rfl .nil)) (.box (by decide) rfl (blkAs_cells (.sm rfl (.sm rfl (.sm rfl (.sm rfl (.sm rfl (.sm rfl (.sm rfl (.sm rfl .nil))))))))) .nil)) (url_Resolve_j1_ok h)
   ·replace h := ifF hc5 h
    refine ssr <| un1 rfl ?_
    obtain ⟨r_4, hr5, h⟩ := bnd h
    refine un <| ac_pure (strings_HasPrefix_ok hr5) rfl rfl rfl <| dnil ?_
    refine Sv.cond (b := r_4) rfl (fun hc6 => ?_) (fun hc6 => ?_)
    ·replace h := ifT hc6 h
     refine srg <| un1 (v := (.c (.ref 0 8 0 0))) rfl <| un1 (v := (S r_.1.Scheme)) rfl ?_
     obtain ⟨r_5, hx1, h⟩ := bnd h
     refine un1 (v := (S r_5)) (s_cat rfl rfl hx1) <| un1 rfl ?_
     obtain ⟨r_6, hx2, h⟩ := bnd h
     refine un1 (v := (S r_6)) (s_cat rfl rfl hx2) ?_
     obtain ⟨r_7, hr6, h⟩ := bnd h
     refine un <| ac_pure (url_Parse_ok hr6) rfl rfl rfl <| un1 rfl <| un1 (v := (.agg [.str r_7.1.Scheme, .str r_7.1.Host, cI r_7.1.Port, .ro false 1 (r_7.1.Path.map eStr), .str r_7.1.Query, cB r_7.1.Asks, .str r_7.1.Fragment, cB r_7.1.Points])) rfl <| un1 (v := (I r_7.2)) rfl <| un <| a2n (h' := upd _ 1 (some (.cells 8 [[.str r_7.1.Scheme, .str r_7.1.Host, cI r_7.1.Port, .ro false 1 (r_7.1.Path.map eStr), .str r_7.1.Query, cB r_7.1.Asks, .str r_7.1.Fragment, cB r_7.1.Points]]))) (n' := 2) rfl rfl (fun h => by cases h) <| un1 rfl <| dnil ?_
     exact Sv.weak (wcn [1] rfl (.cons rfl (.c (.ref rfl (by decide))) (.cf rfl rfl .nil)) (.box (by decide) rfl (blkAs_cells (.sm rfl (.sm rfl (.sm rfl (.sm rfl (.sm rfl (.sm rfl (.sm rfl (.sm rfl .nil))))))))) .nil)) (url_Resolve_j1_ok h)
    ·replace h := ifF hc6 h
     refine srg <| un1 (v := (.agg [.str r_.1.Scheme, .str r_.1.Host, cI r_.1.Port, .ro false 1 (r_.1.Path.map eStr), .str r_.1.Query, cB r_.1.Asks, .str r_.1.Fragment, cB r_.1.Points])) rfl <| un1 rfl ?_
     obtain ⟨r_8, hr7, h⟩ := bnd h
     refine un <| ac_pure (url_beside_ok hr7) rfl rfl rfl <| un1 rfl <| un1 (v := (.agg [.str r_8.1.Scheme, .str r_8.1.Host, cI r_8.1.Port, .ro false 1 (r_8.1.Path.map eStr), .str r_8.1.Query, cB r_8.1.Asks, .str r_8.1.Fragment, cB r_8.1.Points])) rfl <| un1 (v := (I r_8.2)) rfl <| un <| a2n (h' := upd _ 1 (some (.cells 8 [[.str r_8.1.Scheme, .str r_8.1.Host, cI r_8.1.Port, .ro false 1 (r_8.1.Path.map eStr), .str r_8.1.Query, cB r_8.1.Asks, .str r_8.1.Fragment, cB r_8.1.Points]]))) (n' := 2) rfl rfl (fun h => by cases h) <| un1 rfl <| dnil ?_
     exact Sv.weak (wcn [1] rfl (.cons rfl (.c (.ref rfl (by decide))) (.cf rfl rfl .nil)) (.box (by decide) rfl (blkAs_cells (.sm rfl (.sm rfl (.sm rfl (.sm rfl (.sm rfl (.sm rfl (.sm rfl (.sm rfl .nil))))))))) .nil)) (url_Resolve_j1_ok h)
noncomputable abbrev strings_Index (s_ : Tx) (substr_ : Tx) : Option Int := index? s_ substr_
/-- strings.Index, by the contract of the shelf -/
theorem strings_Index_ok {mL : Int} {s_ : Tx} {substr_ : Tx} {r : Int} (h : strings_Index s_ substr_ = some r) : CPure Tryz.prog (GG mL) 58 [(S s_), (S substr_)] (I r) := index_ok (m := mL) Tryz.lays143 rfl h
def a32 : AFunc := ⟨3, [(.tmp 6)], (.seq (.region [⟨(some 6), (.mov (.const (.c (.val (.bool false))))), none⟩])
 (.seq (.region [(mV 7 1), (mV 8 0), (oP 9 (.bin .leq (.tmp 7) (.tmp 8))), (mV 10 9), ⟨(some 11), (.mov (.tmp 0)), (some (10, true))⟩, ⟨(some 12), (.mov (.tmp 2)), (some (10, true))⟩, ⟨(some 13), (.bin .leq (.tmp 11) (.tmp 12)), (some (10, true))⟩, ⟨(some 14), (.pick (.tmp 10) (.tmp 13) (.const (.c (.val (.bool false))))), none⟩, (mV 6 14)])
 .ret))⟩
set_option maxRecDepth 100000 in
theorem c32 : compFunc Tryz.prog 32 = some a32 := by kernel_rfl
def r4_Between_post (r : Bool) : AV → Heap → Nat → Prop := fun v h' n' => v = (B r) ∧ (h' = e0) ∧ n' = 0
/-- clerestory/clerestoryref4.Between -/
def r4_Between (n_ : Int) (low : Int) (high : Int) : Bool :=
 ((decide (low ≤ n_)) && (decide (n_ ≤ high)))
theorem r4_Between_ok {mL : Int} (n_ : Int) (low : Int) (high : Int) : CPure Tryz.prog (GG mL) 32 [(I n_), (I low), (I high)] (B (r4_Between n_ low high)) := by
 generalize h : r4_Between n_ low high = o
 refine acalls_of_sv hmix c32 (R := r4_Between_post o) ?_
 unfold r4_Between at h
 refine ssr <| un1 rfl <| dnil <| ssr <| un1 rfl <| un1 rfl <| un1 (v := (B (decide (low ≤ n_)))) rfl <| un1 rfl ?_
 refine gjoin 4 (d := 14) (v := (B ((decide (low ≤ n_)) && (decide (n_ ≤ high))))) (fun X hX => ?_) ?_
 ·refine split2 (fun hc1 => ?_) (fun hc1 => ?_)
  ·refine gt rfl <| a1 rfl <| gt rfl <| a1 rfl <| gt rfl <| a1 (v := (B (decide (n_ ≤ high)))) rfl <| un1 (v := (B (decide (n_ ≤ high)))) rfl <| dnil ?_
   exact hX _ (.putEq (by rw [hc1]; rfl) (.skip _ _ (.skip _ _ (.skip _ _ (.putEq (by rw [hc1]) (.refl _)) rfl) rfl) rfl))
  ·refine gs rfl rfl <| gs rfl rfl <| gs rfl rfl <| un1 (v := (B false)) rfl <| dnil ?_
   exact hX _ (.putEq (by rw [hc1]; rfl) (.skip _ _ (.skip _ _ (.skip _ _ (.putEq (by rw [hc1]) (.refl _)) rfl) rfl) rfl))
 refine un1 rfl <| dnil <| Sv.ret ?_
 subst h
 exact ⟨_, .refl _, _, rfl, ⟨upd e0 0 (some (B ((decide (low ≤ n_)) && (decide (n_ ≤ high))))), e0, 0⟩, (B ((decide (low ≤ n_)) && (decide (n_ ≤ high)))), weak_canon [] rfl List.nodup_nil (Nat.le_refl _) nlz (.cf rfl rfl .nil) .nil, rfl, rfl, rfl, rfl⟩
def a30_c0 : ACode := (.region [⟨(some 23), (.bin .add (.tmp 10) (kI 1)), none⟩, (mV 10 23)])
def a30_c1 : ACode := (.seq (.region [(oP 11 (.bin .lss (.tmp 10) (.tmp 9)))])
 (.seq (.cond (.tmp 11) .skip (.exit 0))
 (.seq (.block 1 (.seq (.region [(mV 12 10), (oP 13 (.iaddr 1 (.tmp 8) (.tmp 10))), (oP 14 (.load false 1 (.tmp 13))), (mV 4 12), (mV 5 14)])
 (.seq (.region [(mV 15 5), (oP 16 (.conv .i64 (.tmp 15))), ⟨(some 17), (.call 32 [(.tmp 16), (kI 65), (kI 90)]), none⟩])
 (.cond (.tmp 17) (.region [(mV 18 3), (mV 19 4), (mV 20 5), ⟨(some 21), (.bin .add (.tmp 20) (.const (.c (.val (.int .u8 32))))), none⟩, (oP 22 (.iaddr 1 (.tmp 18) (.tmp 19))), ⟨none, (.store 1 (.tmp 22) (.tmp 21)), none⟩]) .skip))))
 a30_c0)))
def a30 : AFunc := ⟨1, [(.tmp 2)], (.seq (.region [⟨(some 2), (.mov (.const (.c (.str [])))), none⟩])
 (.seq (.region [(mV 6 0), (oP 7 (.toBytes (.tmp 6))), (mV 3 7)])
 (.seq (.seq (.region [(mV 8 3), (oP 9 (.len (.tmp 8))), ⟨(some 10), (.mov (kI 0)), none⟩])
 (.block 0 (.loop a30_c1)))
 (.seq (.region [(mV 24 3), (oP 25 (.ofBytes (.tmp 24))), (mV 2 25)])
 .ret))))⟩
set_option maxRecDepth 100000 in
theorem c30 : compFunc Tryz.prog 30 = some a30 := by kernel_rfl
def r4_lower_post (r : Tx) : AV → Heap → Nat → Prop := fun v h' n' => v = (S r) ∧ (h' = e0) ∧ n' = 0
noncomputable def r4_lower_j3 (v9 : Int) (v10 : Int) (self : (List Int) → Int → Int → Option Tx) (K0_ : (List Int) → Option Tx) (b_2 : (List Int)) : Option Tx :=
 self b_2 v9 (wi (v10 + 1))
theorem r4_lower_j3_ok {mL : Int} {Q : AExit → St → Prop} {v9 : Int} {v10 : Int} {self : (List Int) → Int → Int → Option Tx} {K0_ : (List Int) → Option Tx} {b_2 : (List Int)} {zb_2 : Bool} (hzb_2 : zb_2 = true → b_2 = []) {o : Tx} (h : r4_lower_j3 v9 v10 self K0_ b_2 = some o)
  (hself : ∀ (b_ : (List Int)) (v9 : Int) (v10 : Int) (zb : Bool) (_ : zb = true → b_ = []), self b_ v9 v10 = some o → ∀ s, Weak 0 s ⟨(upd (upd (upd (upd e0 3 (some (lstV zb 0 1 b_.length))) 8 (some (lstV zb 0 1 b_.length))) 9 (some (I v9))) 10 (some (I v10))), (upd e0 0 (lstB zb 1 (b_.map (eK .u8)))), 1⟩ → (Q) .normal s)
  (hK0 : ∀ (b_1 : (List Int)) (zb_1 : Bool) (_ : zb_1 = true → b_1 = []), K0_ b_1 = some o → ∀ s, Weak 0 s ⟨(upd e0 3 (some (lstV zb_1 0 1 b_1.length))), (upd e0 0 (lstB zb_1 1 (b_1.map (eK .u8)))), 1⟩ → Q (.exit 0) s)
  (hr : ∀ s, Ends a30.results 0 (r4_lower_post o) .ret s → Q .ret s) :
  Sv Tryz.prog (GG mL) 0 a30_c0 Q ⟨(upd (upd (upd (upd e0 3 (some (lstV zb_2 0 1 b_2.length))) 8 (some (lstV zb_2 0 1 b_2.length))) 9 (some (I v9))) 10 (some (I v10))), (upd e0 0 (lstB zb_2 1 (b_2.map (eK .u8)))), 1⟩ := by
 unfold r4_lower_j3 at h
 refine srg <| un1 (v := (I (wi (v10 + 1)))) rfl <| un1 rfl <| dnil ?_
 exact hself b_2 v9 (wi (v10 + 1)) zb_2 hzb_2 h _ (wcn [0] rfl (.cf rfl rfl (.cf rfl rfl (.cons rfl (.c (lstC_ren rfl (by decide))) (.cons rfl (.c (lstC_ren rfl (by decide))) .nil)))) (.row (by decide) rfl (fr_map fun _ => rfl) .nil))
noncomputable def r4_lower_l0 (K0_ : (List Int) → Option Tx) : Nat → (List Int) → Int → Int → Option Tx
 | 0, _, _, _ => none
 | k + 1, b_, v9, v10 =>
  if decide (v10 < v9) then
   (at? b_ v10).bind fun x_ =>
   if (r4_Between (wr .i64 x_) 65 90) then
    (at? b_ v10).bind fun x_1 =>
    r4_lower_j3 v9 v10 (r4_lower_l0 K0_ k) K0_ (b_.set v10.toNat (wr .u8 (x_ + 32)))
   else
    r4_lower_j3 v9 v10 (r4_lower_l0 K0_ k) K0_ b_
  else
   K0_ b_
theorem r4_lower_l0_ok {mL : Int} {Q : AExit → St → Prop} {K0_ : (List Int) → Option Tx} {k : Nat} {b_ : (List Int)} {v9 : Int} {v10 : Int} {zb : Bool} (hzb : zb = true → b_ = []) {o : Tx} (h : r4_lower_l0 K0_ k b_ v9 v10 = some o)
  (hK0 : ∀ (b_1 : (List Int)) (zb_1 : Bool) (_ : zb_1 = true → b_1 = []), K0_ b_1 = some o → ∀ s, Weak 0 s ⟨(upd e0 3 (some (lstV zb_1 0 1 b_1.length))), (upd e0 0 (lstB zb_1 1 (b_1.map (eK .u8)))), 1⟩ → Q (.exit 0) s)
  (hr : ∀ s, Ends a30.results 0 (r4_lower_post o) .ret s → Q .ret s) :
  Sv Tryz.prog (GG mL) 0 (.loop a30_c1) Q ⟨(upd (upd (upd (upd e0 3 (some (lstV zb 0 1 b_.length))) 8 (some (lstV zb 0 1 b_.length))) 9 (some (I v9))) 10 (some (I v10))), (upd e0 0 (lstB zb 1 (b_.map (eK .u8)))), 1⟩ := by
 refine Sv.loop (I := fun k s => ∃ (b_ : (List Int)), ∃ (v9 : Int), ∃ (v10 : Int), ∃ (zb : Bool), (zb = true → b_ = []) ∧ r4_lower_l0 K0_ k b_ v9 v10 = some o ∧ s = ⟨(upd (upd (upd (upd e0 3 (some (lstV zb 0 1 b_.length))) 8 (some (lstV zb 0 1 b_.length))) 9 (some (I v9))) 10 (some (I v10))), (upd e0 0 (lstB zb 1 (b_.map (eK .u8)))), 1⟩) (fun k s hI => ?_) ⟨b_, v9, v10, zb, hzb, h, rfl⟩
 clear h
 clear hzb zb v10 v9 b_
 obtain ⟨b_, v9, v10, zb, hzb, h, rfl⟩ := hI
 cases k with
 | zero => cases h
 | succ k =>
 rw [r4_lower_l0] at h
 have hself : ∀ (b_ : (List Int)) (v9 : Int) (v10 : Int) (zb : Bool) (_ : zb = true → b_ = []), (r4_lower_l0 K0_ k) b_ v9 v10 = some o → ∀ s, Weak 0 s ⟨(upd (upd (upd (upd e0 3 (some (lstV zb 0 1 b_.length))) 8 (some (lstV zb 0 1 b_.length))) 9 (some (I v9))) 10 (some (I v10))), (upd e0 0 (lstB zb 1 (b_.map (eK .u8)))), 1⟩ → (AThen (fun s' => ∃ s'' k', Weak 0 s' s'' ∧ k' < k + 1 ∧ (fun k s => ∃ (b_ : (List Int)), ∃ (v9 : Int), ∃ (v10 : Int), ∃ (zb : Bool), (zb = true → b_ = []) ∧ r4_lower_l0 K0_ k b_ v9 v10 = some o ∧ s = ⟨(upd (upd (upd (upd e0 3 (some (lstV zb 0 1 b_.length))) 8 (some (lstV zb 0 1 b_.length))) 9 (some (I v9))) 10 (some (I v10))), (upd e0 0 (lstB zb 1 (b_.map (eK .u8)))), 1⟩) k' s'') Q) .normal s := fun b_ v9 v10 zb hzb h s hw => ⟨_, k, hw, Nat.lt_succ_self k, b_, v9, v10, zb, hzb, h, rfl⟩
 refine ssr <| un1 (v := (B (decide (v10 < v9)))) rfl <| dnil <| Sv.seq ?_
 refine Sv.cond (b := decide (v10 < v9)) rfl (fun hc1 => ?_) (fun hc1 => ?_)
 ·replace h := ifT hc1 h
  refine Sv.skip <| Sv.seq <| Sv.block <| ssr <| un1 rfl ?_
  obtain ⟨x_, hx1, h⟩ := bnd h
  refine un1 (v := (.c (.ref 0 1 v10.toNat 0))) (s_iaddrL rfl rfl hzb hx1) <| un1 (v := (.c (.val (.int .u8 x_)))) (s_loadL (z := zb) (e := (eK .u8)) rfl rfl hzb hx1 rfl rfl) <| un1 rfl <| un1 rfl <| dnil <| ssr <| un1 rfl <| un1 (v := (I (wr .i64 x_))) rfl <| un <| ac_pure (r4_Between_ok (mL := mL) (wr .i64 x_) 65 90) rfl rfl rfl <| dnil ?_
  refine Sv.cond (b := (r4_Between (wr .i64 x_) 65 90)) rfl (fun hc2 => ?_) (fun hc2 => ?_)
  ·replace h := ifT hc2 h
   refine srg <| un1 rfl <| un1 rfl <| un1 rfl <| un1 (v := (.c (.val (.int .u8 (wr .u8 (x_ + 32)))))) rfl ?_
   obtain ⟨x_1, hx2, h⟩ := bnd h
   refine un1 (v := (.c (.ref 0 1 v10.toNat 0))) (s_iaddrL rfl rfl hzb hx2) <| un <| a2n (h' := upd _ 0 (lstB zb 1 ((b_.set v10.toNat (wr .u8 (x_ + 32))).map (eK .u8)))) (n' := 1) rfl (s_storeL (e := (eK .u8)) (q' := (wr .u8 (x_ + 32))) rfl rfl hzb hx2 rfl rfl rfl (Nat.le_of_ble_eq_true rfl) rfl) (fun h => by cases h) ?_
   try rw [len_set b_ v10.toNat (wr .u8 (x_ + 32))]
   refine dnil ?_
   exact Sv.weak (wcn [0] rfl (.cf rfl rfl (.cf rfl rfl (.cons rfl (.c (lstC_ren rfl (by decide))) (.cons rfl (.c (lstC_ren rfl (by decide))) .nil)))) (.row (by decide) rfl (fr_map fun _ => rfl) .nil)) (r4_lower_j3_ok (hz_len hzb (len_set b_ v10.toNat (wr .u8 (x_ + 32)))) h hself hK0 hr)
  ·replace h := ifF hc2 h
   refine Sv.skip ?_
   exact Sv.weak (wcn [0] rfl (.cf rfl rfl (.cf rfl rfl (.cons rfl (.c (lstC_ren rfl (by decide))) (.cons rfl (.c (lstC_ren rfl (by decide))) .nil)))) (.row (by decide) rfl (fr_map fun _ => rfl) .nil)) (r4_lower_j3_ok hzb h hself hK0 hr)
 ·replace h := ifF hc1 h
  refine Sv.exit ?_
  exact hK0 b_ zb hzb h _ (wcn [0] rfl (.cons rfl (.c (lstC_ren rfl (by decide))) .nil) (.row (by decide) rfl (fr_map fun _ => rfl) .nil))
/-- clerestory/clerestoryref4.lower -/
noncomputable def r4_lower (s_ : Tx) : Option Tx :=
 lim fun kk => r4_lower_l0 (fun (b_1 : (List Int)) => 
   some (byts b_1)) kk (ints s_) ((ints s_).length : Int) 0
theorem r4_lower_ok {mL : Int} {s_ : Tx} {r : Tx} (h : r4_lower s_ = some r) : CPure Tryz.prog (GG mL) 30 [(S s_)] (S r) := by
 refine acalls_of_sv hmix c30 (R := r4_lower_post r) ?_
 unfold r4_lower at h
 refine ssr <| un1 rfl <| dnil <| ssr <| un1 rfl <| un <| a2v (v := (lstV false 0 1 (ints s_).length)) (h' := upd _ 0 (lstB false 1 ((ints s_).map (eK .u8)))) (n' := 1) rfl (s_toBytes rfl) (fun h => by cases h) <| un1 rfl <| dnil <| Sv.seq <| ssr <| un1 rfl <| un1 (v := (I ((ints s_).length : Int))) (s_lenL rfl (len_nil_of (fun h => by cases h))) <| un1 rfl <| dnil <| Sv.block ?_
 obtain ⟨kk, h⟩ := lim_some h
 refine Sv.weak (wcn [0] rfl (.cf rfl rfl (.cf rfl rfl (.cons rfl (.c (lstC_ren rfl (by decide))) (.cons rfl (.c (lstC_ren rfl (by decide))) .nil)))) (.row (by decide) rfl (fr_map fun _ => rfl) .nil)) (r4_lower_l0_ok (fun h => by cases h) h ?_ (fun s hs => hs))
 ·intro b_1 zb_1 hzb_1 h _ hw1
  refine Sv.weak hw1 <| ssr <| un1 rfl <| un1 (v := (S (byts b_1))) (s_ofBytes (xs := b_1) rfl (slc_lst rfl (List.length_map _).symm (map_nil_of hzb_1))) <| un1 rfl <| dnil <| Sv.ret ?_
  replace h := Option.some.inj h
  subst h
  exact ⟨_, .refl _, _, rfl, ⟨upd e0 0 (some (S (byts b_1))), e0, 0⟩, (S (byts b_1)), weak_canon [] rfl List.nodup_nil (Nat.le_refl _) nlz (.cf rfl rfl .nil) .nil, rfl, rfl, rfl, rfl⟩
def a27_c0 : ACode := (.seq (.region [(oP 20 (.bin .lss (.tmp 19) (.tmp 18)))])
 (.seq (.cond (.tmp 20) .skip (.exit 0))
 (.seq (.block 1 (.seq (.region [(mV 21 19), (oP 22 (.iaddr 1 (.tmp 17) (.tmp 19))), (oP 23 (.load false 1 (.tmp 22))), (mV 6 21), (mV 7 23)])
 (.seq (.region [(mV 24 7), (oP 25 (.conv .i64 (.tmp 24))), ⟨(some 26), (.call 32 [(.tmp 25), (kI 97), (kI 122)]), none⟩, (oP 27 (.un .not (.tmp 26))), (mV 28 27), ⟨(some 29), (.mov (.tmp 6)), (some (28, true))⟩, ⟨(some 30), (.bin .eql (.tmp 29) (kI 0)), (some (28, true))⟩, ⟨(some 31), (.mov (.tmp 30)), (some (28, true))⟩, ⟨(some 32), (.mov (.tmp 7)), (some (31, false))⟩, ⟨(some 33), (.conv .i64 (.tmp 32)), (some (31, false))⟩, ⟨(some 34), (.call 32 [(.tmp 33), (kI 48), (kI 57)]), (some (31, false))⟩, ⟨(some 35), (.un .not (.tmp 34)), (some (31, false))⟩, ⟨(some 36), (.mov (.tmp 35)), (some (31, false))⟩, ⟨(some 37), (.mov (.tmp 7)), (some (36, true))⟩, ⟨(some 38), (.bin .neq (.tmp 37) (.const (.c (.val (.int .u8 43))))), (some (36, true))⟩, ⟨(some 39), (.pick (.tmp 36) (.tmp 38) (.const (.c (.val (.bool false))))), (some (31, false))⟩, ⟨(some 40), (.mov (.tmp 39)), (some (31, false))⟩, ⟨(some 41), (.mov (.tmp 7)), (some (40, true))⟩, ⟨(some 42), (.bin .neq (.tmp 41) (.const (.c (.val (.int .u8 45))))), (some (40, true))⟩, ⟨(some 43), (.pick (.tmp 40) (.tmp 42) (.const (.c (.val (.bool false))))), (some (31, false))⟩, ⟨(some 44), (.mov (.tmp 43)), (some (31, false))⟩, ⟨(some 45), (.mov (.tmp 7)), (some (44, true))⟩, ⟨(some 46), (.bin .neq (.tmp 45) (.const (.c (.val (.int .u8 46))))), (some (44, true))⟩, ⟨(some 47), (.pick (.tmp 44) (.tmp 46) (.const (.c (.val (.bool false))))), (some (31, false))⟩, ⟨(some 48), (.pick (.tmp 31) (.const (.c (.val (.bool true)))) (.tmp 47)), (some (28, true))⟩, ⟨(some 49), (.pick (.tmp 28) (.tmp 48) (.const (.c (.val (.bool false))))), none⟩])
 (.cond (.tmp 49) (.seq (.region [⟨(some 2), (.mov (.const (.c (.str [])))), none⟩, ⟨(some 3), (.mov (.const (.c (.val (.bool false))))), none⟩])
 .ret) .skip))))
 (.region [⟨(some 50), (.bin .add (.tmp 19) (kI 1)), none⟩, (mV 19 50)]))))
def a27 : AFunc := ⟨1, [(.tmp 2), (.tmp 3)], (.seq (.region [⟨(some 2), (.mov (.const (.c (.str [])))), none⟩, ⟨(some 3), (.mov (.const (.c (.val (.bool false))))), none⟩])
 (.seq (.region [(mV 8 0), ⟨(some 9), (.call 58 [(.tmp 8), (.const (.c (.str [58])))]), none⟩, (mV 4 9)])
 (.seq (.seq (.region [(mV 10 4), ⟨(some 11), (.bin .lss (.tmp 10) (kI 1)), none⟩])
 (.cond (.tmp 11) (.seq (.region [⟨(some 2), (.mov (.const (.c (.str [])))), none⟩, ⟨(some 3), (.mov (.const (.c (.val (.bool false))))), none⟩])
 .ret) .skip))
 (.seq (.region [(mV 12 0), (mV 13 4), (oP 14 (.slStr (.tmp 12) none (some (.tmp 13)))), (oP 15 (.call 30 [(.tmp 14)])), (mV 5 15)])
 (.seq (.seq (.region [(mV 16 5), (oP 17 (.toBytes (.tmp 16))), (oP 18 (.len (.tmp 17))), ⟨(some 19), (.mov (kI 0)), none⟩])
 (.block 0 (.loop a27_c0)))
 (.seq (.region [(mV 51 5), (mV 2 51), ⟨(some 3), (.mov (.const (.c (.val (.bool true))))), none⟩])
 .ret))))))⟩
set_option maxRecDepth 100000 in
theorem c27 : compFunc Tryz.prog 27 = some a27 := by kernel_rfl
def r4_SchemeOf_post (r : (Tx × Bool)) : AV → Heap → Nat → Prop := fun v h' n' => v = (.tup [(S r.1), (B r.2)]) ∧ (h' = e0) ∧ n' = 0
noncomputable def r4_SchemeOf_l0 (r_2 : Tx) (K0_ : Unit → Option (Tx × Bool)) : Nat → Int → Option (Tx × Bool)
 | 0, _ => none
 | k + 1, v19 =>
  if decide (v19 < ((ints r_2).length : Int)) then
   (at? (ints r_2) v19).bind fun x_ =>
   if ((!(r4_Between (wr .i64 x_) 97 122)) && ((decide (v19 = 0)) || ((((!(r4_Between (wr .i64 x_) 48 57)) && (!decide (x_ = 43))) && (!decide (x_ = 45))) && (!decide (x_ = 46))))) then
    some ([], false)
   else
    (r4_SchemeOf_l0 r_2 K0_ k) (wi (v19 + 1))
  else
   K0_ ()
theorem r4_SchemeOf_l0_ok {mL : Int} {Q : AExit → St → Prop} {r_2 : Tx} {K0_ : Unit → Option (Tx × Bool)} {k : Nat} {v19 : Int} {o : (Tx × Bool)} (h : r4_SchemeOf_l0 r_2 K0_ k v19 = some o)
  (hK0 : ∀ (_ : Unit), K0_ () = some o → ∀ s, Weak 0 s ⟨(upd e0 5 (some (S r_2))), e0, 0⟩ → Q (.exit 0) s)
  (hr : ∀ s, Ends a27.results 0 (r4_SchemeOf_post o) .ret s → Q .ret s) :
  Sv Tryz.prog (GG mL) 0 (.loop a27_c0) Q ⟨(upd (upd (upd (upd e0 5 (some (S r_2))) 17 (some (lstV false 0 1 (ints r_2).length))) 18 (some (I ((ints r_2).length : Int)))) 19 (some (I v19))), (upd e0 0 (lstB false 1 ((ints r_2).map (eK .u8)))), 1⟩ := by
 refine Sv.loop (I := fun k s => ∃ (v19 : Int), r4_SchemeOf_l0 r_2 K0_ k v19 = some o ∧ s = ⟨(upd (upd (upd (upd e0 5 (some (S r_2))) 17 (some (lstV false 0 1 (ints r_2).length))) 18 (some (I ((ints r_2).length : Int)))) 19 (some (I v19))), (upd e0 0 (lstB false 1 ((ints r_2).map (eK .u8)))), 1⟩) (fun k s hI => ?_) ⟨v19, h, rfl⟩
 clear h
 clear v19
 obtain ⟨v19, h, rfl⟩ := hI
 cases k with
 | zero => cases h
 | succ k =>
 rw [r4_SchemeOf_l0] at h
 have hself : ∀ (v19 : Int), (r4_SchemeOf_l0 r_2 K0_ k) v19 = some o → ∀ s, Weak 0 s ⟨(upd (upd (upd (upd e0 5 (some (S r_2))) 17 (some (lstV false 0 1 (ints r_2).length))) 18 (some (I ((ints r_2).length : Int)))) 19 (some (I v19))), (upd e0 0 (lstB false 1 ((ints r_2).map (eK .u8)))), 1⟩ → (AThen (fun s' => ∃ s'' k', Weak 0 s' s'' ∧ k' < k + 1 ∧ (fun k s => ∃ (v19 : Int), r4_SchemeOf_l0 r_2 K0_ k v19 = some o ∧ s = ⟨(upd (upd (upd (upd e0 5 (some (S r_2))) 17 (some (lstV false 0 1 (ints r_2).length))) 18 (some (I ((ints r_2).length : Int)))) 19 (some (I v19))), (upd e0 0 (lstB false 1 ((ints r_2).map (eK .u8)))), 1⟩) k' s'') Q) .normal s := fun v19 h s hw => ⟨_, k, hw, Nat.lt_succ_self k, v19, h, rfl⟩
 refine ssr <| un1 (v := (B (decide (v19 < ((ints r_2).length : Int))))) rfl <| dnil <| Sv.seq ?_
 refine Sv.cond (b := decide (v19 < ((ints r_2).length : Int))) rfl (fun hc2 => ?_) (fun hc2 => ?_)
 ·replace h := ifT hc2 h
  refine Sv.skip <| Sv.seq <| Sv.block <| ssr <| un1 rfl ?_
  obtain ⟨x_, hx2, h⟩ := bnd h
  refine un1 (v := (.c (.ref 0 1 v19.toNat 0))) (s_iaddrL rfl rfl (fun h => by cases h) hx2) <| un1 (v := (.c (.val (.int .u8 x_)))) (s_loadL (z := false) (e := (eK .u8)) rfl rfl (fun h => by cases h) hx2 rfl rfl) <| un1 rfl <| un1 rfl <| dnil <| ssr <| un1 rfl <| un1 (v := (I (wr .i64 x_))) rfl <| un <| ac_pure (r4_Between_ok (mL := mL) (wr .i64 x_) 97 122) rfl rfl rfl <| un1 (v := (B (!(r4_Between (wr .i64 x_) 97 122)))) rfl <| un1 rfl ?_
  refine gjoin 21 (d := 49) (v := (B ((!(r4_Between (wr .i64 x_) 97 122)) && ((decide (v19 = 0)) || ((((!(r4_Between (wr .i64 x_) 48 57)) && (!decide (x_ = 43))) && (!decide (x_ = 45))) && (!decide (x_ = 46))))))) (fun X hX => ?_) ?_
  ·refine split2 (fun hc7 => ?_) (fun hc7 => ?_)
   ·refine gt rfl <| a1 rfl <| gt rfl <| a1 (v := (B (decide (v19 = 0)))) rfl <| gt rfl <| a1 rfl ?_
    refine gjoin 17 (d := 48) (v := (B ((decide (v19 = 0)) || ((((!(r4_Between (wr .i64 x_) 48 57)) && (!decide (x_ = 43))) && (!decide (x_ = 45))) && (!decide (x_ = 46)))))) (fun X hX => ?_) ?_
    ·refine split2 (fun hc6 => ?_) (fun hc6 => ?_)
     ·refine gs rfl rfl <| gs rfl rfl <| gs rfl rfl <| gs rfl rfl <| gs rfl rfl <| gu rfl <| gu rfl <| gs rfl rfl <| gs rfl rfl <| gu rfl <| gu rfl <| gs rfl rfl <| gs rfl rfl <| gu rfl <| gu rfl <| gs rfl rfl <| gt rfl <| a1 (v := (B true)) rfl <| dnil ?_
      exact hX _ (.putEq (by rw [hc6]; rfl) (.skip _ _ (.skip _ _ (.skip _ _ (.skip _ _ (.skip _ _ (.skip _ _ (.skip _ _ (.skip _ _ (.skip _ _ (.skip _ _ (.skip _ _ (.skip _ _ (.skip _ _ (.skip _ _ (.skip _ _ (.skip _ _ (.putEq (by rw [hc6]) (.refl _)) rfl) rfl) rfl) rfl) rfl) rfl) rfl) rfl) rfl) rfl) rfl) rfl) rfl) rfl) rfl) rfl))
     ·refine gt rfl <| a1 rfl <| gt rfl <| a1 (v := (I (wr .i64 x_))) rfl <| gt rfl <| ac_pure (r4_Between_ok (mL := mL) (wr .i64 x_) 48 57) rfl rfl rfl <| gt rfl <| a1 (v := (B (!(r4_Between (wr .i64 x_) 48 57)))) rfl <| gt rfl <| a1 rfl ?_
      refine gjoin 3 (d := 39) (v := (B ((!(r4_Between (wr .i64 x_) 48 57)) && (!decide (x_ = 43))))) (fun X hX => ?_) ?_
      ·refine split2 (fun hc3 => ?_) (fun hc3 => ?_)
       ·refine gt rfl <| a1 rfl <| gt rfl <| a1 (v := (B (!decide (x_ = 43)))) rfl <| gt rfl <| a1 (v := (B (!decide (x_ = 43)))) rfl <| dnil ?_
        exact hX _ (.putEq (by rw [hc3]; rfl) (.skip _ _ (.skip _ _ (.putEq (by rw [hc3]) (.refl _)) rfl) rfl))
       ·refine gs rfl rfl <| gs rfl rfl <| gt rfl <| a1 (v := (B false)) rfl <| dnil ?_
        exact hX _ (.putEq (by rw [hc3]; rfl) (.skip _ _ (.skip _ _ (.putEq (by rw [hc3]) (.refl _)) rfl) rfl))
      refine gt rfl <| a1 rfl ?_
      refine gjoin 3 (d := 43) (v := (B (((!(r4_Between (wr .i64 x_) 48 57)) && (!decide (x_ = 43))) && (!decide (x_ = 45))))) (fun X hX => ?_) ?_
      ·refine split2 (fun hc4 => ?_) (fun hc4 => ?_)
       ·refine gt rfl <| a1 rfl <| gt rfl <| a1 (v := (B (!decide (x_ = 45)))) rfl <| gt rfl <| a1 (v := (B (!decide (x_ = 45)))) rfl <| dnil ?_
        exact hX _ (.putEq (by rw [hc4]; rfl) (.skip _ _ (.skip _ _ (.putEq (by rw [hc4]) (.refl _)) rfl) rfl))
       ·refine gs rfl rfl <| gs rfl rfl <| gt rfl <| a1 (v := (B false)) rfl <| dnil ?_
        exact hX _ (.putEq (by rw [hc4]; rfl) (.skip _ _ (.skip _ _ (.putEq (by rw [hc4]) (.refl _)) rfl) rfl))
      refine gt rfl <| a1 rfl ?_
      refine gjoin 3 (d := 47) (v := (B ((((!(r4_Between (wr .i64 x_) 48 57)) && (!decide (x_ = 43))) && (!decide (x_ = 45))) && (!decide (x_ = 46))))) (fun X hX => ?_) ?_
      ·refine split2 (fun hc5 => ?_) (fun hc5 => ?_)
       ·refine gt rfl <| a1 rfl <| gt rfl <| a1 (v := (B (!decide (x_ = 46)))) rfl <| gt rfl <| a1 (v := (B (!decide (x_ = 46)))) rfl <| dnil ?_
        exact hX _ (.putEq (by rw [hc5]; rfl) (.skip _ _ (.skip _ _ (.putEq (by rw [hc5]) (.refl _)) rfl) rfl))
       ·refine gs rfl rfl <| gs rfl rfl <| gt rfl <| a1 (v := (B false)) rfl <| dnil ?_
        exact hX _ (.putEq (by rw [hc5]; rfl) (.skip _ _ (.skip _ _ (.putEq (by rw [hc5]) (.refl _)) rfl) rfl))
      refine gt rfl <| a1 (v := (B ((((!(r4_Between (wr .i64 x_) 48 57)) && (!decide (x_ = 43))) && (!decide (x_ = 45))) && (!decide (x_ = 46))))) rfl <| dnil ?_
      exact hX _ (.putEq (by rw [hc6]; rfl) (.skip _ _ (.skip _ _ (.skip _ _ (.skip _ _ (.skip _ _ (.skip _ _ (.skip _ _ (.skip _ _ (.skip _ _ (.skip _ _ (.putEq (by rw [hc6]) (.refl _)) rfl) rfl) rfl) rfl) rfl) rfl) rfl) rfl) rfl) rfl))
    refine un1 (v := (B ((decide (v19 = 0)) || ((((!(r4_Between (wr .i64 x_) 48 57)) && (!decide (x_ = 43))) && (!decide (x_ = 45))) && (!decide (x_ = 46)))))) rfl <| dnil ?_
    exact hX _ (.putEq (by rw [hc7]; rfl) (.skip _ _ (.skip _ _ (.skip _ _ (.skip _ _ (.putEq (by rw [hc7]) (.refl _)) rfl) rfl) rfl) rfl))
   ·refine gs rfl rfl <| gs rfl rfl <| gs rfl rfl <| gu rfl <| gu rfl <| gu rfl <| gu rfl <| gu rfl <| gu rfl <| gu rfl <| gu rfl <| gu rfl <| gu rfl <| gu rfl <| gu rfl <| gu rfl <| gu rfl <| gu rfl <| gu rfl <| gs rfl rfl <| un1 (v := (B false)) rfl <| dnil ?_
    exact hX _ (.putEq (by rw [hc7]; rfl) (.skip _ _ (.skip _ _ (.skip _ _ (.skip _ _ (.skip _ _ (.skip _ _ (.skip _ _ (.skip _ _ (.skip _ _ (.skip _ _ (.skip _ _ (.skip _ _ (.skip _ _ (.skip _ _ (.skip _ _ (.skip _ _ (.skip _ _ (.skip _ _ (.skip _ _ (.skip _ _ (.putEq (by rw [hc7]) (.refl _)) rfl) rfl) rfl) rfl) rfl) rfl) rfl) rfl) rfl) rfl) rfl) rfl) rfl) rfl) rfl) rfl) rfl) rfl) rfl) rfl))
  refine dnil ?_
  refine Sv.cond (b := ((!(r4_Between (wr .i64 x_) 97 122)) && ((decide (v19 = 0)) || ((((!(r4_Between (wr .i64 x_) 48 57)) && (!decide (x_ = 43))) && (!decide (x_ = 45))) && (!decide (x_ = 46)))))) rfl (fun hc8 => ?_) (fun hc8 => ?_)
  ·replace h := ifT hc8 h
   refine ssr <| un1 rfl <| un1 rfl <| dnil <| Sv.ret ?_
   replace h := Option.some.inj h
   subst h
   exact hr _ ⟨_, .refl _, _, rfl, ⟨upd e0 0 (some (.tup [(S []), (B false)])), e0, 0⟩, (.tup [(S []), (B false)]), weak_canon [] rfl List.nodup_nil (Nat.le_refl _) nlz (.cons rfl (avAs_tup (.cons (avAs_free rfl) (.cons (avAs_free rfl) .nil))) .nil) .nil, rfl, rfl, rfl, rfl⟩
  ·replace h := ifF hc8 h
   refine Sv.skip <| srg <| un1 (v := (I (wi (v19 + 1)))) rfl <| un1 rfl <| dnil ?_
   exact hself (wi (v19 + 1)) h _ (wcn [0] rfl (.cf rfl rfl (.cf rfl rfl (.cons rfl (.c (lstC_ren rfl (by decide))) (.cf rfl rfl .nil)))) (.row (by decide) rfl (fr_map fun _ => rfl) .nil))
 ·replace h := ifF hc2 h
  refine Sv.exit ?_
  exact hK0 () h _ (wcn [] rfl (.cf rfl rfl .nil) .nil)
/-- clerestory/clerestoryref4.SchemeOf -/
noncomputable def r4_SchemeOf (s_ : Tx) : Option (Tx × Bool) :=
 (strings_Index s_ [58]).bind fun r_ =>
 if decide (r_ < 1) then
  some ([], false)
 else
  (sub? s_ 0 r_).bind fun r_1 =>
  (r4_lower r_1).bind fun r_2 =>
  lim fun kk => r4_SchemeOf_l0 r_2 (fun (_ : Unit) => 
    some (r_2, true)) kk 0
theorem r4_SchemeOf_ok {mL : Int} {s_ : Tx} {r : (Tx × Bool)} (h : r4_SchemeOf s_ = some r) : CPure Tryz.prog (GG mL) 27 [(S s_)] (.tup [(S r.1), (B r.2)]) := by
 refine acalls_of_sv hmix c27 (R := r4_SchemeOf_post r) ?_
 unfold r4_SchemeOf at h
 refine ssr <| un1 rfl <| un1 rfl <| dnil <| ssr <| un1 rfl ?_
 obtain ⟨r_, hr1, h⟩ := bnd h
 refine un <| ac_pure (strings_Index_ok hr1) rfl rfl rfl <| un1 rfl <| dnil <| Sv.seq <| ssr <| un1 rfl <| un1 (v := (B (decide (r_ < 1)))) rfl <| dnil ?_
 refine Sv.cond (b := decide (r_ < 1)) rfl (fun hc1 => ?_) (fun hc1 => ?_)
 ·replace h := ifT hc1 h
  refine ssr <| un1 rfl <| un1 rfl <| dnil <| Sv.ret ?_
  replace h := Option.some.inj h
  subst h
  exact ⟨_, .refl _, _, rfl, ⟨upd e0 0 (some (.tup [(S []), (B false)])), e0, 0⟩, (.tup [(S []), (B false)]), weak_canon [] rfl List.nodup_nil (Nat.le_refl _) nlz (.cons rfl (avAs_tup (.cons (avAs_free rfl) (.cons (avAs_free rfl) .nil))) .nil) .nil, rfl, rfl, rfl, rfl⟩
 ·replace h := ifF hc1 h
  refine Sv.skip <| ssr <| un1 rfl <| un1 rfl ?_
  obtain ⟨r_1, hx1, h⟩ := bnd h
  refine un1 (v := (S r_1)) (s_slStr rfl rfl rfl hx1) ?_
  obtain ⟨r_2, hr2, h⟩ := bnd h
  refine un <| ac_pure (r4_lower_ok hr2) rfl rfl rfl <| un1 rfl <| dnil <| Sv.seq <| ssr <| un1 rfl <| un <| a2v (v := (lstV false 0 1 (ints r_2).length)) (h' := upd _ 0 (lstB false 1 ((ints r_2).map (eK .u8)))) (n' := 1) rfl (s_toBytes rfl) (fun h => by cases h) <| un1 (v := (I ((ints r_2).length : Int))) (s_lenL rfl (len_nil_of (fun h => by cases h))) <| un1 rfl <| dnil <| Sv.block ?_
  obtain ⟨kk, h⟩ := lim_some h
  refine Sv.weak (wcn [0] rfl (.cf rfl rfl (.cf rfl rfl (.cons rfl (.c (lstC_ren rfl (by decide))) (.cf rfl rfl .nil)))) (.row (by decide) rfl (fr_map fun _ => rfl) .nil)) (r4_SchemeOf_l0_ok h ?_ (fun s hs => hs))
  ·intro _ h _ hw1
   refine Sv.weak hw1 <| ssr <| un1 rfl <| un1 rfl <| un1 rfl <| dnil <| Sv.ret ?_
   replace h := Option.some.inj h
   subst h
   exact ⟨_, .refl _, _, rfl, ⟨upd e0 0 (some (.tup [(S r_2), (B true)])), e0, 0⟩, (.tup [(S r_2), (B true)]), weak_canon [] rfl List.nodup_nil (Nat.le_refl _) nlz (.cons rfl (avAs_tup (.cons (avAs_free rfl) (.cons (avAs_free rfl) .nil))) .nil) .nil, rfl, rfl, rfl, rfl⟩
def a26 : AFunc := ⟨0, [(.cell true 8 0), (.tmp 1)], (.seq (.region [⟨(some 0), (.box (.const (.agg [(.str []), (.str []), (.val (.int .i64 0)), (.ro true 1 []), (.str []), (.val (.bool false)), (.str []), (.val (.bool false))]))), none⟩, ⟨(some 1), (.mov (kI 0)), none⟩])
 (.seq (.region [(oP 2 (.build [(.str []), (.str []), (.val (.int .i64 0)), (.ro true 1 []), (.str []), (.val (.bool false)), (.str []), (.val (.bool false))] [])), ⟨none, (.store 8 (.tmp 0) (.tmp 2)), none⟩, ⟨(some 1), (.mov (kI 3)), none⟩])
 .ret))⟩
set_option maxRecDepth 100000 in
theorem c26 : compFunc Tryz.prog 26 = some a26 := by kernel_rfl
def r4_Addressed_fn1_post (r : (TJUrl × Int)) : AV → Heap → Nat → Prop := fun v h' n' => v = (.tup [(.agg [.str r.1.Scheme, .str r.1.Host, cI r.1.Port, .ro false 1 (r.1.Path.map eStr), .str r.1.Query, cB r.1.Asks, .str r.1.Fragment, cB r.1.Points]), (I r.2)]) ∧ (h' = e0) ∧ n' = 0
/-- clerestory/clerestoryref4.Addressed$1 -/
def r4_Addressed_fn1 : (TJUrl × Int) :=
 ((⟨[], [], 0, [], [], false, [], false⟩ : TJUrl), 3)
theorem r4_Addressed_fn1_ok {mL : Int} : CPure Tryz.prog (GG mL) 26 [] (.tup [(.agg [.str r4_Addressed_fn1.1.Scheme, .str r4_Addressed_fn1.1.Host, cI r4_Addressed_fn1.1.Port, .ro false 1 (r4_Addressed_fn1.1.Path.map eStr), .str r4_Addressed_fn1.1.Query, cB r4_Addressed_fn1.1.Asks, .str r4_Addressed_fn1.1.Fragment, cB r4_Addressed_fn1.1.Points]), (I r4_Addressed_fn1.2)]) := by
 generalize h : r4_Addressed_fn1 = o
 refine acalls_of_sv hmix c26 (R := r4_Addressed_fn1_post o) ?_
 unfold r4_Addressed_fn1 at h
 refine ssr <| un <| a2v (v := (.c (.ref 0 8 0 0))) (h' := upd _ 0 (some (.cells 8 [[.str [], .str [], cI 0, .ro true 1 [], .str [], cB false, .str [], cB false]]))) (n' := 1) rfl rfl (fun h => by cases h) <| un1 rfl <| dnil <| ssr <| un1 (v := (.agg [.str [], .str [], cI 0, .ro true 1 [], .str [], cB false, .str [], cB false])) rfl <| un <| a2n (h' := upd _ 0 (some (.cells 8 [[.str [], .str [], cI 0, .ro true 1 [], .str [], cB false, .str [], cB false]]))) (n' := 1) rfl rfl (fun h => by cases h) <| un1 rfl <| dnil <| Sv.ret ?_
 subst h
 exact ⟨_, .refl _, _, rfl, ⟨upd e0 0 (some (.tup [(.agg [.str [], .str [], cI 0, .ro false 1 (([] : TT).map eStr), .str [], cB false, .str [], cB false]), (I 3)])), e0, 0⟩, (.tup [(.agg [.str [], .str [], cI 0, .ro false 1 (([] : TT).map eStr), .str [], cB false, .str [], cB false]), (I 3)]), weak_canon [] rfl List.nodup_nil (Nat.le_refl _) nlz (.cons rfl (avAs_tup (.cons (avAs_agg (.sm rfl (.sm rfl (.sm rfl (.cons .nil (.sm rfl (.sm rfl (.sm rfl (.sm rfl .nil))))))))) (.cons (avAs_free rfl) .nil))) .nil) .nil, rfl, rfl, rfl, rfl⟩
noncomputable abbrev strings_Contains (s_ : Tx) (substr_ : Tx) : Option Bool := contains? s_ substr_
/-- strings.Contains+, by the contract of the shelf -/
theorem strings_Contains_ok {mL : Int} {s_ : Tx} {substr_ : Tx} {r : Bool} (h : strings_Contains s_ substr_ = some r) : CPure Tryz.prog (GG mL) 60 [(S s_), (S substr_)] (B r) := contains_ok (m := mL) Tryz.lays144 rfl h
def a29_c0 : ACode := (.cond (.tmp 24) (.seq (.drawn (.fin [((mV 25 0), (0, 0)), ((mV 26 6), (0, 1)), ((oP 27 (.slStr (.tmp 25) none (some (.tmp 26)))), (0, 2)), ((mV 28 0), (0, 3)), ((mV 29 6), (0, 4)), ((oP 30 (.slStr (.tmp 28) (some (.tmp 29)) none)), (0, 5)), ((mV 4 27), (0, 6)), ((mV 5 30), (0, 7))]))
 .ret) .skip)
def a29_c1 : ACode := (.region [⟨(some 31), (.bin .add (.tmp 9) (kI 1)), none⟩, (mV 9 31)])
def a29_c2 : ACode := (.seq (.region [(oP 10 (.bin .lss (.tmp 9) (.tmp 8)))])
 (.seq (.cond (.tmp 10) .skip (.exit 0))
 (.seq (.block 1 (.seq (.region [(mV 11 9), (mV 6 11)])
 (.seq (.region [(mV 12 0), (mV 13 6), (oP 14 (.idxS (.tmp 12) (.tmp 13))), ⟨(some 15), (.bin .lss (.tmp 14) (.const (.c (.val (.int .u8 128))))), none⟩, (mV 16 15), ⟨(some 17), (.mov (.tmp 1)), (some (16, true))⟩, ⟨(some 18), (.mov (.tmp 0)), (some (16, true))⟩, ⟨(some 19), (.mov (.tmp 6)), (some (16, true))⟩, ⟨(some 20), (.mov (.tmp 6)), (some (16, true))⟩, ⟨(some 21), (.bin .add (.tmp 20) (kI 1)), (some (16, true))⟩, ⟨(some 22), (.slStr (.tmp 18) (some (.tmp 19)) (some (.tmp 21))), (some (16, true))⟩, ⟨(some 23), (.call 60 [(.tmp 17), (.tmp 22)]), (some (16, true))⟩, ⟨(some 24), (.pick (.tmp 16) (.tmp 23) (.const (.c (.val (.bool false))))), none⟩])
 a29_c0)))
 a29_c1)))
def a29 : AFunc := ⟨2, [(.tmp 4), (.tmp 5)], (.seq (.region [⟨(some 4), (.mov (.const (.c (.str [])))), none⟩, ⟨(some 5), (.mov (.const (.c (.str [])))), none⟩])
 (.seq (.seq (.region [(mV 7 0), (oP 8 (.lenS (.tmp 7))), ⟨(some 9), (.mov (kI 0)), none⟩])
 (.block 0 (.loop a29_c2)))
 (.seq (.region [(mV 32 0), (mV 4 32), ⟨(some 5), (.mov (.const (.c (.str [])))), none⟩])
 .ret)))⟩
set_option maxRecDepth 100000 in
theorem c29 : compFunc Tryz.prog 29 = some a29 := by kernel_rfl
def r4_parted_post (r : (Tx × Tx)) : AV → Heap → Nat → Prop := fun v h' n' => v = (.tup [(S r.1), (S r.2)]) ∧ (h' = e0) ∧ n' = 0
abbrev r4_parted_q0 (mL : Int) (Q : AExit → St → Prop) : AExit → St → Prop := AThen (Sv Tryz.prog (GG mL) 0 a29_c1 Q) Q
abbrev r4_parted_q1 (mL : Int) (Q : AExit → St → Prop) : AExit → St → Prop := ABlock 1 (r4_parted_q0 mL Q)
noncomputable def r4_parted_j3 (s_ : Tx) (v9 : Int) (marks : Tx) (self : Int → Option (Tx × Tx)) (K0_ : Unit → Option (Tx × Tx)) (v24 : Bool) : Option (Tx × Tx) :=
 if v24 then
  (sub? s_ 0 v9).bind fun r_ =>
  (sub? s_ v9 (s_.length : Int)).bind fun r_1 =>
  some (r_, r_1)
 else
  self (wi (v9 + 1))
theorem r4_parted_j3_ok {mL : Int} {Q : AExit → St → Prop} {s_ : Tx} {v9 : Int} {marks : Tx} {self : Int → Option (Tx × Tx)} {K0_ : Unit → Option (Tx × Tx)} {v24 : Bool} {o : (Tx × Tx)} (h : r4_parted_j3 s_ v9 marks self K0_ v24 = some o)
  (hself : ∀ (v9 : Int), self v9 = some o → ∀ s, Weak 0 s ⟨(upd (upd (upd (upd e0 0 (some (S s_))) 1 (some (S marks))) 8 (some (I (s_.length : Int)))) 9 (some (I v9))), e0, 0⟩ → (Q) .normal s)
  (hK0 : ∀ (_ : Unit), K0_ () = some o → ∀ s, Weak 0 s ⟨(upd e0 0 (some (S s_))), e0, 0⟩ → Q (.exit 0) s)
  (hr : ∀ s, Ends a29.results 0 (r4_parted_post o) .ret s → Q .ret s) :
  Sv Tryz.prog (GG mL) 0 a29_c0 (r4_parted_q1 mL Q) ⟨(upd (upd (upd (upd (upd (upd e0 0 (some (S s_))) 1 (some (S marks))) 6 (some (I v9))) 8 (some (I (s_.length : Int)))) 9 (some (I v9))) 24 (some (B v24))), e0, 0⟩ := by
 unfold r4_parted_j3 at h
 refine Sv.cond (b := v24) rfl (fun hc2 => ?_) (fun hc2 => ?_)
 ·replace h := ifT hc2 h
  refine Sv.seq <| Sv.drawn <| un1 rfl <| un1 rfl ?_
  obtain ⟨r_, hx1, h⟩ := bnd h
  refine un1 (v := (S r_)) (s_slStr rfl rfl rfl hx1) <| un1 rfl <| un1 rfl ?_
  obtain ⟨r_1, hx2, h⟩ := bnd h
  refine un1 (v := (S r_1)) (s_slStr rfl rfl rfl hx2) <| un1 rfl <| un1 rfl <| dnil <| Sv.ret ?_
  replace h := Option.some.inj h
  subst h
  exact hr _ ⟨_, .refl _, _, rfl, ⟨upd e0 0 (some (.tup [(S r_), (S r_1)])), e0, 0⟩, (.tup [(S r_), (S r_1)]), weak_canon [] rfl List.nodup_nil (Nat.le_refl _) nlz (.cons rfl (avAs_tup (.cons (avAs_free rfl) (.cons (avAs_free rfl) .nil))) .nil) .nil, rfl, rfl, rfl, rfl⟩
 ·replace h := ifF hc2 h
  refine Sv.skip <| srg <| un1 (v := (I (wi (v9 + 1)))) rfl <| un1 rfl <| dnil ?_
  exact hself (wi (v9 + 1)) h _ (wcn [] rfl (.cf rfl rfl (.cf rfl rfl (.cf rfl rfl (.cf rfl rfl .nil)))) .nil)
noncomputable def r4_parted_l0 (s_ : Tx) (marks : Tx) (K0_ : Unit → Option (Tx × Tx)) : Nat → Int → Option (Tx × Tx)
 | 0, _ => none
 | k + 1, v9 =>
  if decide (v9 < (s_.length : Int)) then
   (at? s_ v9).bind fun c_ =>
   if decide ((c_.toNat : Int) < 128) then
    (sub? s_ v9 (wi (v9 + 1))).bind fun r_2 =>
    (strings_Contains marks r_2).bind fun r_3 =>
    r4_parted_j3 s_ v9 marks (r4_parted_l0 s_ marks K0_ k) K0_ r_3
   else
    r4_parted_j3 s_ v9 marks (r4_parted_l0 s_ marks K0_ k) K0_ false
  else
   K0_ ()
theorem r4_parted_l0_ok {mL : Int} {Q : AExit → St → Prop} {s_ : Tx} {marks : Tx} {K0_ : Unit → Option (Tx × Tx)} {k : Nat} {v9 : Int} {o : (Tx × Tx)} (h : r4_parted_l0 s_ marks K0_ k v9 = some o)
  (hK0 : ∀ (_ : Unit), K0_ () = some o → ∀ s, Weak 0 s ⟨(upd e0 0 (some (S s_))), e0, 0⟩ → Q (.exit 0) s)
  (hr : ∀ s, Ends a29.results 0 (r4_parted_post o) .ret s → Q .ret s) :
  Sv Tryz.prog (GG mL) 0 (.loop a29_c2) Q ⟨(upd (upd (upd (upd e0 0 (some (S s_))) 1 (some (S marks))) 8 (some (I (s_.length : Int)))) 9 (some (I v9))), e0, 0⟩ := by
 refine Sv.loop (I := fun k s => ∃ (v9 : Int), r4_parted_l0 s_ marks K0_ k v9 = some o ∧ s = ⟨(upd (upd (upd (upd e0 0 (some (S s_))) 1 (some (S marks))) 8 (some (I (s_.length : Int)))) 9 (some (I v9))), e0, 0⟩) (fun k s hI => ?_) ⟨v9, h, rfl⟩
 clear h
 clear v9
 obtain ⟨v9, h, rfl⟩ := hI
 cases k with
 | zero => cases h
 | succ k =>
 rw [r4_parted_l0] at h
 have hself : ∀ (v9 : Int), (r4_parted_l0 s_ marks K0_ k) v9 = some o → ∀ s, Weak 0 s ⟨(upd (upd (upd (upd e0 0 (some (S s_))) 1 (some (S marks))) 8 (some (I (s_.length : Int)))) 9 (some (I v9))), e0, 0⟩ → (AThen (fun s' => ∃ s'' k', Weak 0 s' s'' ∧ k' < k + 1 ∧ (fun k s => ∃ (v9 : Int), r4_parted_l0 s_ marks K0_ k v9 = some o ∧ s = ⟨(upd (upd (upd (upd e0 0 (some (S s_))) 1 (some (S marks))) 8 (some (I (s_.length : Int)))) 9 (some (I v9))), e0, 0⟩) k' s'') Q) .normal s := fun v9 h s hw => ⟨_, k, hw, Nat.lt_succ_self k, v9, h, rfl⟩
 refine ssr <| un1 (v := (B (decide (v9 < (s_.length : Int))))) rfl <| dnil <| Sv.seq ?_
 refine Sv.cond (b := decide (v9 < (s_.length : Int))) rfl (fun hc1 => ?_) (fun hc1 => ?_)
 ·replace h := ifT hc1 h
  refine Sv.skip <| Sv.seq <| Sv.block <| ssr <| un1 rfl <| un1 rfl <| dnil <| ssr <| un1 rfl <| un1 rfl ?_
  obtain ⟨c_, hx3, h⟩ := bnd h
  refine un1 (v := (.c (.val (.int .u8 (c_.toNat : Int))))) (s_idxS rfl rfl hx3) <| un1 (v := (B (decide ((c_.toNat : Int) < 128)))) rfl <| un1 rfl ?_
  refine split2 (fun hc3 => ?_) (fun hc3 => ?_)
  ·replace h := ifT hc3 h
   refine gt rfl <| a1 rfl <| gt rfl <| a1 rfl <| gt rfl <| a1 rfl <| gt rfl <| a1 rfl <| gt rfl <| a1 (v := (I (wi (v9 + 1)))) rfl ?_
   obtain ⟨r_2, hx4, h⟩ := bnd h
   refine gt rfl <| a1 (v := (S r_2)) (s_slStr rfl rfl rfl hx4) ?_
   obtain ⟨r_3, hr1, h⟩ := bnd h
   refine gt rfl <| ac_pure (strings_Contains_ok hr1) rfl rfl rfl <| un1 (v := (B r_3)) rfl <| dnil ?_
   exact Sv.weak (wcn [] rfl (.cf rfl rfl (.cf rfl rfl (.cf rfl rfl (.cf rfl rfl (.cf rfl rfl (.cf rfl rfl .nil)))))) .nil) (r4_parted_j3_ok h hself hK0 hr)
  ·replace h := ifF hc3 h
   refine gs rfl rfl <| gs rfl rfl <| gs rfl rfl <| gs rfl rfl <| gs rfl rfl <| gs rfl rfl <| gs rfl rfl <| un1 (v := (B false)) rfl <| dnil ?_
   exact Sv.weak (wcn [] rfl (.cf rfl rfl (.cf rfl rfl (.cf rfl rfl (.cf rfl rfl (.cf rfl rfl (.cf rfl rfl .nil)))))) .nil) (r4_parted_j3_ok h hself hK0 hr)
 ·replace h := ifF hc1 h
  refine Sv.exit ?_
  exact hK0 () h _ (wcn [] rfl (.cf rfl rfl .nil) .nil)
/-- clerestory/clerestoryref4.parted -/
noncomputable def r4_parted (s_ : Tx) (marks : Tx) : Option (Tx × Tx) :=
 lim fun kk => r4_parted_l0 s_ marks (fun (_ : Unit) => 
   some (s_, [])) kk 0
theorem r4_parted_ok {mL : Int} {s_ : Tx} {marks : Tx} {r : (Tx × Tx)} (h : r4_parted s_ marks = some r) : CPure Tryz.prog (GG mL) 29 [(S s_), (S marks)] (.tup [(S r.1), (S r.2)]) := by
 refine acalls_of_sv hmix c29 (R := r4_parted_post r) ?_
 unfold r4_parted at h
 refine ssr <| un1 rfl <| un1 rfl <| dnil <| Sv.seq <| ssr <| un1 rfl <| un1 (v := (I (s_.length : Int))) rfl <| un1 rfl <| dnil <| Sv.block ?_
 obtain ⟨kk, h⟩ := lim_some h
 refine Sv.weak (wcn [] rfl (.cf rfl rfl (.cf rfl rfl (.cf rfl rfl (.cf rfl rfl .nil)))) .nil) (r4_parted_l0_ok h ?_ (fun s hs => hs))
 ·intro _ h _ hw1
  refine Sv.weak hw1 <| ssr <| un1 rfl <| un1 rfl <| un1 rfl <| dnil <| Sv.ret ?_
  replace h := Option.some.inj h
  subst h
  exact ⟨_, .refl _, _, rfl, ⟨upd e0 0 (some (.tup [(S s_), (S [])])), e0, 0⟩, (.tup [(S s_), (S [])]), weak_canon [] rfl List.nodup_nil (Nat.le_refl _) nlz (.cons rfl (avAs_tup (.cons (avAs_free rfl) (.cons (avAs_free rfl) .nil))) .nil) .nil, rfl, rfl, rfl, rfl⟩
def a31_c0 : ACode := (.seq (.region [(oP 14 (.bin .lss (.tmp 13) (.tmp 12)))])
 (.seq (.cond (.tmp 14) .skip (.exit 0))
 (.seq (.block 1 (.seq (.region [(oP 15 (.iaddr 1 (.tmp 11) (.tmp 13))), (oP 16 (.load false 1 (.tmp 15))), (mV 5 16)])
 (.seq (.seq (.region [(mV 17 5), (oP 18 (.conv .i64 (.tmp 17))), ⟨(some 19), (.call 32 [(.tmp 18), (kI 97), (kI 122)]), none⟩, (oP 20 (.un .not (.tmp 19))), (mV 21 20), ⟨(some 22), (.mov (.tmp 5)), (some (21, true))⟩, ⟨(some 23), (.conv .i64 (.tmp 22)), (some (21, true))⟩, ⟨(some 24), (.call 32 [(.tmp 23), (kI 48), (kI 57)]), (some (21, true))⟩, ⟨(some 25), (.un .not (.tmp 24)), (some (21, true))⟩, ⟨(some 26), (.pick (.tmp 21) (.tmp 25) (.const (.c (.val (.bool false))))), none⟩, (mV 27 26), ⟨(some 28), (.mov (.tmp 5)), (some (27, true))⟩, ⟨(some 29), (.bin .neq (.tmp 28) (.const (.c (.val (.int .u8 45))))), (some (27, true))⟩, ⟨(some 30), (.pick (.tmp 27) (.tmp 29) (.const (.c (.val (.bool false))))), none⟩, (mV 31 30), ⟨(some 32), (.mov (.tmp 5)), (some (31, true))⟩, ⟨(some 33), (.bin .neq (.tmp 32) (.const (.c (.val (.int .u8 46))))), (some (31, true))⟩, ⟨(some 34), (.pick (.tmp 31) (.tmp 33) (.const (.c (.val (.bool false))))), none⟩, (mV 35 34), ⟨(some 36), (.mov (.tmp 5)), (some (35, false))⟩, ⟨(some 37), (.bin .eql (.tmp 36) (.const (.c (.val (.int .u8 46))))), (some (35, false))⟩, ⟨(some 38), (.mov (.tmp 37)), (some (35, false))⟩, ⟨(some 39), (.mov (.tmp 3)), (some (38, true))⟩, ⟨(some 40), (.bin .eql (.tmp 39) (.const (.c (.val (.int .u8 46))))), (some (38, true))⟩, ⟨(some 41), (.pick (.tmp 38) (.tmp 40) (.const (.c (.val (.bool false))))), (some (35, false))⟩, ⟨(some 42), (.pick (.tmp 35) (.const (.c (.val (.bool true)))) (.tmp 41)), none⟩])
 (.cond (.tmp 42) (.seq (.region [⟨(some 2), (.mov (.const (.c (.val (.bool false))))), none⟩])
 .ret) .skip))
 (.region [(mV 43 5), (mV 3 43)]))))
 (.region [⟨(some 44), (.bin .add (.tmp 13) (kI 1)), none⟩, (mV 13 44)]))))
def a31 : AFunc := ⟨1, [(.tmp 2)], (.seq (.region [⟨(some 2), (.mov (.const (.c (.val (.bool false))))), none⟩])
 (.seq (.seq (.region [(mV 6 0), (oP 7 (.lenS (.tmp 6))), ⟨(some 8), (.call 32 [(.tmp 7), (kI 1), (kI 100)]), none⟩, (oP 9 (.un .not (.tmp 8)))])
 (.cond (.tmp 9) (.seq (.region [⟨(some 2), (.mov (.const (.c (.val (.bool false))))), none⟩])
 .ret) .skip))
 (.seq (.region [⟨(some 3), (.mov (.const (.c (.val (.int .u8 46))))), none⟩])
 (.seq (.seq (.region [(mV 10 0), (oP 11 (.toBytes (.tmp 10))), (oP 12 (.len (.tmp 11))), ⟨(some 13), (.mov (kI 0)), none⟩])
 (.block 0 (.loop a31_c0)))
 (.seq (.region [(mV 45 3), ⟨(some 46), (.bin .neq (.tmp 45) (.const (.c (.val (.int .u8 46))))), none⟩, (mV 2 46)])
 .ret)))))⟩
set_option maxRecDepth 100000 in
theorem c31 : compFunc Tryz.prog 31 = some a31 := by kernel_rfl
def r4_hostRight_post (r : Bool) : AV → Heap → Nat → Prop := fun v h' n' => v = (B r) ∧ (h' = e0) ∧ n' = 0
noncomputable def r4_hostRight_l0 (h_ : Tx) (K0_ : Int → Option Bool) : Nat → Int → Int → Option Bool
 | 0, _, _ => none
 | k + 1, last, v13 =>
  if decide (v13 < ((ints h_).length : Int)) then
   (at? (ints h_) v13).bind fun x_ =>
   if (((((!(r4_Between (wr .i64 x_) 97 122)) && (!(r4_Between (wr .i64 x_) 48 57))) && (!decide (x_ = 45))) && (!decide (x_ = 46))) || ((decide (x_ = 46)) && (decide (last = 46)))) then
    some false
   else
    (r4_hostRight_l0 h_ K0_ k) x_ (wi (v13 + 1))
  else
   K0_ last
theorem r4_hostRight_l0_ok {mL : Int} {Q : AExit → St → Prop} {h_ : Tx} {K0_ : Int → Option Bool} {k : Nat} {last : Int} {v13 : Int} {o : Bool} (h : r4_hostRight_l0 h_ K0_ k last v13 = some o)
  (hK0 : ∀ (last1 : Int), K0_ last1 = some o → ∀ s, Weak 0 s ⟨(upd e0 3 (some (.c (.val (.int .u8 last1))))), e0, 0⟩ → Q (.exit 0) s)
  (hr : ∀ s, Ends a31.results 0 (r4_hostRight_post o) .ret s → Q .ret s) :
  Sv Tryz.prog (GG mL) 0 (.loop a31_c0) Q ⟨(upd (upd (upd (upd e0 3 (some (.c (.val (.int .u8 last))))) 11 (some (lstV false 0 1 (ints h_).length))) 12 (some (I ((ints h_).length : Int)))) 13 (some (I v13))), (upd e0 0 (lstB false 1 ((ints h_).map (eK .u8)))), 1⟩ := by
 refine Sv.loop (I := fun k s => ∃ (last : Int), ∃ (v13 : Int), r4_hostRight_l0 h_ K0_ k last v13 = some o ∧ s = ⟨(upd (upd (upd (upd e0 3 (some (.c (.val (.int .u8 last))))) 11 (some (lstV false 0 1 (ints h_).length))) 12 (some (I ((ints h_).length : Int)))) 13 (some (I v13))), (upd e0 0 (lstB false 1 ((ints h_).map (eK .u8)))), 1⟩) (fun k s hI => ?_) ⟨last, v13, h, rfl⟩
 clear h
 clear v13 last
 obtain ⟨last, v13, h, rfl⟩ := hI
 cases k with
 | zero => cases h
 | succ k =>
 rw [r4_hostRight_l0] at h
 have hself : ∀ (last : Int) (v13 : Int), (r4_hostRight_l0 h_ K0_ k) last v13 = some o → ∀ s, Weak 0 s ⟨(upd (upd (upd (upd e0 3 (some (.c (.val (.int .u8 last))))) 11 (some (lstV false 0 1 (ints h_).length))) 12 (some (I ((ints h_).length : Int)))) 13 (some (I v13))), (upd e0 0 (lstB false 1 ((ints h_).map (eK .u8)))), 1⟩ → (AThen (fun s' => ∃ s'' k', Weak 0 s' s'' ∧ k' < k + 1 ∧ (fun k s => ∃ (last : Int), ∃ (v13 : Int), r4_hostRight_l0 h_ K0_ k last v13 = some o ∧ s = ⟨(upd (upd (upd (upd e0 3 (some (.c (.val (.int .u8 last))))) 11 (some (lstV false 0 1 (ints h_).length))) 12 (some (I ((ints h_).length : Int)))) 13 (some (I v13))), (upd e0 0 (lstB false 1 ((ints h_).map (eK .u8)))), 1⟩) k' s'') Q) .normal s := fun last v13 h s hw => ⟨_, k, hw, Nat.lt_succ_self k, last, v13, h, rfl⟩
 refine ssr <| un1 (v := (B (decide (v13 < ((ints h_).length : Int))))) rfl <| dnil <| Sv.seq ?_
 refine Sv.cond (b := decide (v13 < ((ints h_).length : Int))) rfl (fun hc2 => ?_) (fun hc2 => ?_)
 ·replace h := ifT hc2 h
  refine Sv.skip <| Sv.seq <| Sv.block <| ssr ?_
  obtain ⟨x_, hx1, h⟩ := bnd h
  refine un1 (v := (.c (.ref 0 1 v13.toNat 0))) (s_iaddrL rfl rfl (fun h => by cases h) hx1) <| un1 (v := (.c (.val (.int .u8 x_)))) (s_loadL (z := false) (e := (eK .u8)) rfl rfl (fun h => by cases h) hx1 rfl rfl) <| un1 rfl <| dnil <| Sv.seq <| ssr <| un1 rfl <| un1 (v := (I (wr .i64 x_))) rfl <| un <| ac_pure (r4_Between_ok (mL := mL) (wr .i64 x_) 97 122) rfl rfl rfl <| un1 (v := (B (!(r4_Between (wr .i64 x_) 97 122)))) rfl <| un1 rfl ?_
  refine gjoin 5 (d := 26) (v := (B ((!(r4_Between (wr .i64 x_) 97 122)) && (!(r4_Between (wr .i64 x_) 48 57))))) (fun X hX => ?_) ?_
  ·refine split2 (fun hc3 => ?_) (fun hc3 => ?_)
   ·refine gt rfl <| a1 rfl <| gt rfl <| a1 (v := (I (wr .i64 x_))) rfl <| gt rfl <| ac_pure (r4_Between_ok (mL := mL) (wr .i64 x_) 48 57) rfl rfl rfl <| gt rfl <| a1 (v := (B (!(r4_Between (wr .i64 x_) 48 57)))) rfl <| un1 (v := (B (!(r4_Between (wr .i64 x_) 48 57)))) rfl <| dnil ?_
    exact hX _ (.putEq (by rw [hc3]; rfl) (.skip _ _ (.skip _ _ (.skip _ _ (.skip _ _ (.putEq (by rw [hc3]) (.refl _)) rfl) rfl) rfl) rfl))
   ·refine gs rfl rfl <| gs rfl rfl <| gs rfl rfl <| gs rfl rfl <| un1 (v := (B false)) rfl <| dnil ?_
    exact hX _ (.putEq (by rw [hc3]; rfl) (.skip _ _ (.skip _ _ (.skip _ _ (.skip _ _ (.putEq (by rw [hc3]) (.refl _)) rfl) rfl) rfl) rfl))
  refine un1 rfl ?_
  refine gjoin 3 (d := 30) (v := (B (((!(r4_Between (wr .i64 x_) 97 122)) && (!(r4_Between (wr .i64 x_) 48 57))) && (!decide (x_ = 45))))) (fun X hX => ?_) ?_
  ·refine split2 (fun hc4 => ?_) (fun hc4 => ?_)
   ·refine gt rfl <| a1 rfl <| gt rfl <| a1 (v := (B (!decide (x_ = 45)))) rfl <| un1 (v := (B (!decide (x_ = 45)))) rfl <| dnil ?_
    exact hX _ (.putEq (by rw [hc4]; rfl) (.skip _ _ (.skip _ _ (.putEq (by rw [hc4]) (.refl _)) rfl) rfl))
   ·refine gs rfl rfl <| gs rfl rfl <| un1 (v := (B false)) rfl <| dnil ?_
    exact hX _ (.putEq (by rw [hc4]; rfl) (.skip _ _ (.skip _ _ (.putEq (by rw [hc4]) (.refl _)) rfl) rfl))
  refine un1 rfl ?_
  refine gjoin 3 (d := 34) (v := (B ((((!(r4_Between (wr .i64 x_) 97 122)) && (!(r4_Between (wr .i64 x_) 48 57))) && (!decide (x_ = 45))) && (!decide (x_ = 46))))) (fun X hX => ?_) ?_
  ·refine split2 (fun hc5 => ?_) (fun hc5 => ?_)
   ·refine gt rfl <| a1 rfl <| gt rfl <| a1 (v := (B (!decide (x_ = 46)))) rfl <| un1 (v := (B (!decide (x_ = 46)))) rfl <| dnil ?_
    exact hX _ (.putEq (by rw [hc5]; rfl) (.skip _ _ (.skip _ _ (.putEq (by rw [hc5]) (.refl _)) rfl) rfl))
   ·refine gs rfl rfl <| gs rfl rfl <| un1 (v := (B false)) rfl <| dnil ?_
    exact hX _ (.putEq (by rw [hc5]; rfl) (.skip _ _ (.skip _ _ (.putEq (by rw [hc5]) (.refl _)) rfl) rfl))
  refine un1 rfl ?_
  refine gjoin 7 (d := 42) (v := (B (((((!(r4_Between (wr .i64 x_) 97 122)) && (!(r4_Between (wr .i64 x_) 48 57))) && (!decide (x_ = 45))) && (!decide (x_ = 46))) || ((decide (x_ = 46)) && (decide (last = 46)))))) (fun X hX => ?_) ?_
  ·refine split2 (fun hc7 => ?_) (fun hc7 => ?_)
   ·refine gs rfl rfl <| gs rfl rfl <| gs rfl rfl <| gu rfl <| gu rfl <| gs rfl rfl <| un1 (v := (B true)) rfl <| dnil ?_
    exact hX _ (.putEq (by rw [hc7]; rfl) (.skip _ _ (.skip _ _ (.skip _ _ (.skip _ _ (.skip _ _ (.skip _ _ (.putEq (by rw [hc7]) (.refl _)) rfl) rfl) rfl) rfl) rfl) rfl))
   ·refine gt rfl <| a1 rfl <| gt rfl <| a1 (v := (B (decide (x_ = 46)))) rfl <| gt rfl <| a1 rfl ?_
    refine gjoin 3 (d := 41) (v := (B ((decide (x_ = 46)) && (decide (last = 46))))) (fun X hX => ?_) ?_
    ·refine split2 (fun hc6 => ?_) (fun hc6 => ?_)
     ·refine gt rfl <| a1 rfl <| gt rfl <| a1 (v := (B (decide (last = 46)))) rfl <| gt rfl <| a1 (v := (B (decide (last = 46)))) rfl <| dnil ?_
      exact hX _ (.putEq (by rw [hc6]; rfl) (.skip _ _ (.skip _ _ (.putEq (by rw [hc6]) (.refl _)) rfl) rfl))
     ·refine gs rfl rfl <| gs rfl rfl <| gt rfl <| a1 (v := (B false)) rfl <| dnil ?_
      exact hX _ (.putEq (by rw [hc6]; rfl) (.skip _ _ (.skip _ _ (.putEq (by rw [hc6]) (.refl _)) rfl) rfl))
    refine un1 (v := (B ((decide (x_ = 46)) && (decide (last = 46))))) rfl <| dnil ?_
    exact hX _ (.putEq (by rw [hc7]; rfl) (.skip _ _ (.skip _ _ (.skip _ _ (.skip _ _ (.putEq (by rw [hc7]) (.refl _)) rfl) rfl) rfl) rfl))
  refine dnil ?_
  refine Sv.cond (b := (((((!(r4_Between (wr .i64 x_) 97 122)) && (!(r4_Between (wr .i64 x_) 48 57))) && (!decide (x_ = 45))) && (!decide (x_ = 46))) || ((decide (x_ = 46)) && (decide (last = 46))))) rfl (fun hc8 => ?_) (fun hc8 => ?_)
  ·replace h := ifT hc8 h
   refine ssr <| un1 rfl <| dnil <| Sv.ret ?_
   replace h := Option.some.inj h
   subst h
   exact hr _ ⟨_, .refl _, _, rfl, ⟨upd e0 0 (some (B false)), e0, 0⟩, (B false), weak_canon [] rfl List.nodup_nil (Nat.le_refl _) nlz (.cf rfl rfl .nil) .nil, rfl, rfl, rfl, rfl⟩
  ·replace h := ifF hc8 h
   refine Sv.skip <| srg <| un1 rfl <| un1 rfl <| dnil <| srg <| un1 (v := (I (wi (v13 + 1)))) rfl <| un1 rfl <| dnil ?_
   exact hself x_ (wi (v13 + 1)) h _ (wcn [0] rfl (.cf rfl rfl (.cf rfl rfl (.cons rfl (.c (lstC_ren rfl (by decide))) (.cf rfl rfl .nil)))) (.row (by decide) rfl (fr_map fun _ => rfl) .nil))
 ·replace h := ifF hc2 h
  refine Sv.exit ?_
  exact hK0 last h _ (wcn [] rfl (.cf rfl rfl .nil) .nil)
/-- clerestory/clerestoryref4.hostRight -/
noncomputable def r4_hostRight (h_ : Tx) : Option Bool :=
 if (!(r4_Between (h_.length : Int) 1 100)) then
  some false
 else
  lim fun kk => r4_hostRight_l0 h_ (fun (last1 : Int) => 
    some (!decide (last1 = 46))) kk 46 0
theorem r4_hostRight_ok {mL : Int} {h_ : Tx} {r : Bool} (h : r4_hostRight h_ = some r) : CPure Tryz.prog (GG mL) 31 [(S h_)] (B r) := by
 refine acalls_of_sv hmix c31 (R := r4_hostRight_post r) ?_
 unfold r4_hostRight at h
 refine ssr <| un1 rfl <| dnil <| Sv.seq <| ssr <| un1 rfl <| un1 (v := (I (h_.length : Int))) rfl <| un <| ac_pure (r4_Between_ok (mL := mL) (h_.length : Int) 1 100) rfl rfl rfl <| un1 (v := (B (!(r4_Between (h_.length : Int) 1 100)))) rfl <| dnil ?_
 refine Sv.cond (b := (!(r4_Between (h_.length : Int) 1 100))) rfl (fun hc1 => ?_) (fun hc1 => ?_)
 ·replace h := ifT hc1 h
  refine ssr <| un1 rfl <| dnil <| Sv.ret ?_
  replace h := Option.some.inj h
  subst h
  exact ⟨_, .refl _, _, rfl, ⟨upd e0 0 (some (B false)), e0, 0⟩, (B false), weak_canon [] rfl List.nodup_nil (Nat.le_refl _) nlz (.cf rfl rfl .nil) .nil, rfl, rfl, rfl, rfl⟩
 ·replace h := ifF hc1 h
  refine Sv.skip <| ssr <| un1 rfl <| dnil <| Sv.seq <| ssr <| un1 rfl <| un <| a2v (v := (lstV false 0 1 (ints h_).length)) (h' := upd _ 0 (lstB false 1 ((ints h_).map (eK .u8)))) (n' := 1) rfl (s_toBytes rfl) (fun h => by cases h) <| un1 (v := (I ((ints h_).length : Int))) (s_lenL rfl (len_nil_of (fun h => by cases h))) <| un1 rfl <| dnil <| Sv.block ?_
  obtain ⟨kk, h⟩ := lim_some h
  refine Sv.weak (wcn [0] rfl (.cf rfl rfl (.cf rfl rfl (.cons rfl (.c (lstC_ren rfl (by decide))) (.cf rfl rfl .nil)))) (.row (by decide) rfl (fr_map fun _ => rfl) .nil)) (r4_hostRight_l0_ok h ?_ (fun s hs => hs))
  ·intro last1 h _ hw1
   refine Sv.weak hw1 <| ssr <| un1 rfl <| un1 (v := (B (!decide (last1 = 46)))) rfl <| un1 rfl <| dnil <| Sv.ret ?_
   replace h := Option.some.inj h
   subst h
   exact ⟨_, .refl _, _, rfl, ⟨upd e0 0 (some (B (!decide (last1 = 46)))), e0, 0⟩, (B (!decide (last1 = 46))), weak_canon [] rfl List.nodup_nil (Nat.le_refl _) nlz (.cf rfl rfl .nil) .nil, rfl, rfl, rfl, rfl⟩
noncomputable abbrev sb_Grow (l : List UInt8) (x0 : Int) : Option Tx := bGrow? x0
/-- (*strings.Builder).Grow, by my own walk of it -/
theorem sb_Grow_ok {mL : Int} {z : Bool} {l : List UInt8} {x0 : Int} {r : List UInt8} (hz : z = true → l = []) (h : sb_Grow l x0 = some r) : ACalls Tryz.prog (GG mL) 97 [.c (.ref 0 2 0 0), (I x0)] (bldH 76 5 true []) 2 (bPost 76 5 (.tup []) r) := bGrow_ok blays bL4 b165 h
end Go.Proofs.YtjicgjhhiallkaaGreatDoorBv
-- squeezed
