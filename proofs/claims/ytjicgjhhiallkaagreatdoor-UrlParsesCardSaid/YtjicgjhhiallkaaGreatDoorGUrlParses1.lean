/- Printed by a program of mine (bgen.py): plain functions, and the walks that show that the code comes to what they answer. -/
import Derived.Test.YtjicgjhhiallkaaGreatDoorGUrlParses0
namespace Go.Proofs.YtjicgjhhiallkaaGreatDoorBv
open Go
set_option linter.unusedVariables false
set_option linter.unusedSimpArgs false
set_option maxRecDepth 100000
def a6_c0 : ACode := (.seq (.seq (.region [(mV 44 6), (mV 45 9), (oP 46 (.slStr (.tmp 44) none (some (.tmp 45)))), (oP 47 (.call 20 [(.tmp 4), (.tmp 46)])), (oP 48 (.un .not (.tmp 47)))])
 (.cond (.tmp 48) (.seq (.region [(oP 49 (.build [(.str []), (.str []), (.val (.int .i64 0)), (.ro true 1 []), (.str []), (.val (.bool false)), (.str []), (.val (.bool false))] [])), ⟨none, (.store 8 (.tmp 2) (.tmp 49)), none⟩, ⟨(some 3), (.mov (kI 3)), none⟩])
 .ret) .skip))
 (.seq (.region [(mV 51 6), (mV 52 9), (oP 53 (.slStr (.tmp 51) (some (.tmp 52)) none)), (oP 54 (.call 21 [(.tmp 4), (.tmp 53)])), (mV 50 54), (oP 55 (.ext (.tmp 50) 0)), (oP 56 (.ext (.tmp 50) 1)), (mV 10 55), (mV 11 56)])
 (.seq (.region [(mV 58 10), ⟨(some 59), (.call 23 [(.tmp 58), (.const (.c (.str [47])))]), none⟩, (oP 60 (.call 22 [(.tmp 59)])), (mV 57 60), (oP 61 (.ext (.tmp 57) 0)), (oP 62 (.ext (.tmp 57) 1)), (mV 12 61), (mV 13 62)])
 (.seq (.seq (.region [(mV 63 11), (oP 64 (.un .not (.tmp 63))), (mV 65 64), ⟨(some 66), (.mov (.tmp 13)), (some (65, false))⟩, ⟨(some 67), (.un .not (.tmp 66)), (some (65, false))⟩, ⟨(some 68), (.pick (.tmp 65) (.const (.c (.val (.bool true)))) (.tmp 67)), none⟩])
 (.cond (.tmp 68) (.seq (.region [(oP 69 (.build [(.str []), (.str []), (.val (.int .i64 0)), (.ro true 1 []), (.str []), (.val (.bool false)), (.str []), (.val (.bool false))] [])), ⟨none, (.store 8 (.tmp 2) (.tmp 69)), none⟩, ⟨(some 3), (.mov (kI 3)), none⟩])
 .ret) .skip))
 (.seq (.region [(mV 70 12), (oP 71 (.call 24 [(.tmp 70)])), (oP 72 (.faddr 3 (.tmp 4))), ⟨none, (.store 1 (.tmp 72) (.tmp 71)), none⟩])
 (.seq (.region [(oP 73 (.load true 8 (.tmp 4))), ⟨none, (.store 8 (.tmp 2) (.tmp 73)), none⟩, ⟨(some 3), (.mov (kI 0)), none⟩])
 .ret))))))
def a6 : AFunc := ⟨1, [(.cell true 8 2), (.tmp 3)], (.seq (.region [⟨(some 2), (.box (.const (.agg [(.str []), (.str []), (.val (.int .i64 0)), (.ro true 1 []), (.str []), (.val (.bool false)), (.str []), (.val (.bool false))]))), none⟩, ⟨(some 3), (.mov (kI 0)), none⟩])
 (.seq (.seq (.region [(mV 14 0), (oP 15 (.lenS (.tmp 14))), ⟨(some 16), (.bin .gtr (.tmp 15) (kI 500)), none⟩])
 (.cond (.tmp 16) (.seq (.region [(oP 17 (.build [(.str []), (.str []), (.val (.int .i64 0)), (.ro true 1 []), (.str []), (.val (.bool false)), (.str []), (.val (.bool false))] [])), ⟨none, (.store 8 (.tmp 2) (.tmp 17)), none⟩, ⟨(some 3), (.mov (kI 2)), none⟩])
 .ret) .skip))
 (.seq (.region [⟨(some 4), (.box (.const (.agg [(.str []), (.str []), (.val (.int .i64 0)), (.ro true 1 []), (.str []), (.val (.bool false)), (.str []), (.val (.bool false))]))), none⟩])
 (.seq (.region [(mV 19 0), (oP 20 (.call 17 [(.tmp 19)])), (mV 18 20), (oP 21 (.ext (.tmp 18) 0)), (oP 22 (.ext (.tmp 18) 1)), (oP 23 (.ext (.tmp 18) 2)), (mV 5 21), (mV 6 22), (mV 7 23)])
 (.seq (.region [(mV 25 6), ⟨(some 26), (.call 18 [(.tmp 25), (.const (.c (.str [47, 47])))]), none⟩, (mV 24 26), (oP 27 (.ext (.tmp 24) 0)), (oP 28 (.ext (.tmp 24) 1)), (mV 6 27), (mV 8 28)])
 (.seq (.seq (.region [(mV 29 7), (oP 30 (.un .not (.tmp 29))), (mV 31 30), ⟨(some 32), (.mov (.tmp 8)), (some (31, false))⟩, ⟨(some 33), (.un .not (.tmp 32)), (some (31, false))⟩, ⟨(some 34), (.pick (.tmp 31) (.const (.c (.val (.bool true)))) (.tmp 33)), none⟩])
 (.cond (.tmp 34) (.seq (.region [(oP 35 (.build [(.str []), (.str []), (.val (.int .i64 0)), (.ro true 1 []), (.str []), (.val (.bool false)), (.str []), (.val (.bool false))] [])), ⟨none, (.store 8 (.tmp 2) (.tmp 35)), none⟩, ⟨(some 3), (.mov (kI 3)), none⟩])
 .ret) .skip))
 (.seq (.region [(mV 36 5), (oP 37 (.faddr 0 (.tmp 4))), ⟨none, (.store 1 (.tmp 37) (.tmp 36)), none⟩])
 (.seq (.region [(mV 38 6), ⟨(some 39), (.call 19 [(.tmp 38), (.const (.c (.str [47, 63, 35])))]), none⟩, (mV 9 39)])
 (.seq (.seq (.region [(mV 40 9), ⟨(some 41), (.bin .lss (.tmp 40) (kI 0)), none⟩])
 (.cond (.tmp 41) (.region [(mV 42 6), (oP 43 (.lenS (.tmp 42))), (mV 9 43)]) .skip))
 a6_c0)))))))))⟩
set_option maxRecDepth 100000 in
theorem c6 : compFunc Tryz.prog 6 = some a6 := by kernel_rfl
def url_Parse_post (r : (TJUrl × Int)) : AV → Heap → Nat → Prop := fun v h' n' => v = (.tup [(.agg [.str r.1.Scheme, .str r.1.Host, cI r.1.Port, .ro false 1 (r.1.Path.map eStr), .str r.1.Query, cB r.1.Asks, .str r.1.Fragment, cB r.1.Points]), (I r.2)]) ∧ (h' = (fun _ => none)) ∧ n' = 0
noncomputable def url_Parse_j1 (r_1 : ((List UInt8) × Bool)) (r_ : ((List UInt8) × (List UInt8) × Bool)) (n_ : Int) : Option (TJUrl × Int) :=
 (sub? r_1.1 0 n_).bind fun r_3 =>
 (url_place1 (⟨r_.1, [], 0, [], [], false, [], false⟩ : TJUrl) r_3).bind fun r_4 =>
 if (!r_4.1) then
  some ((⟨[], [], 0, [], [], false, [], false⟩ : TJUrl), 3)
 else
  (sub? r_1.1 n_ (r_1.1.length : Int)).bind fun r_5 =>
  (url_tail1 r_4.2 r_5).bind fun r_6 =>
  (strings_TrimPrefix r_6.1 [47]).bind fun r_7 =>
  (url_segments r_7).bind fun r_8 =>
  if ((!r_6.2.1) || (!r_8.2)) then
   some ((⟨[], [], 0, [], [], false, [], false⟩ : TJUrl), 3)
  else
   (url_tidy r_8.1).bind fun r_9 =>
   some ((⟨r_6.2.2.Scheme, r_6.2.2.Host, r_6.2.2.Port, r_9, r_6.2.2.Query, r_6.2.2.Asks, r_6.2.2.Fragment, r_6.2.2.Points⟩ : TJUrl), 0)
theorem url_Parse_j1_ok {mL : Int} {r_1 : ((List UInt8) × Bool)} {r_ : ((List UInt8) × (List UInt8) × Bool)} {n_ : Int} {o : (TJUrl × Int)} (h : url_Parse_j1 r_1 r_ n_ = some o) :
  Sv Tryz.prog (GG mL) 0 a6_c0 (Ends a6.results 0 (url_Parse_post o)) ⟨(upd (upd (upd (upd (fun _ => none) 2 (some (.c (.ref 0 8 0 0)))) 4 (some (.c (.ref 1 8 0 0)))) 6 (some (S r_1.1))) 9 (some (I n_))), (upd (upd (fun _ => none) 0 (some (.cells 8 [[.str [], .str [], cI 0, .ro true 1 [], .str [], cB false, .str [], cB false]]))) 1 (some (.cells 8 [[.str r_.1, .str [], cI 0, .ro true 1 [], .str [], cB false, .str [], cB false]]))), 2⟩ := by
 unfold url_Parse_j1 at h
 refine Sv.seq ?_
 refine Sv.seq ?_
 refine Sv.region ?_
 refine un (a1 rfl ?_)
 refine un (a1 rfl ?_)
 obtain ⟨r_3, hx1, h⟩ := bnd h
 refine un (a1 (v := (S r_3)) (s_slStr rfl rfl rfl hx1) ?_)
 refine dweak (show Weak 0 _ ⟨(upd (upd (upd (upd (upd (upd (upd (fun _ => none) 2 (some (.c (.ref 0 8 0 0)))) 4 (some (.c (.ref 1 8 0 0)))) 6 (some (S r_1.1))) 9 (some (I n_))) 44 (some (S r_1.1))) 45 (some (I n_))) 46 (some (S r_3))), (upd (upd (upd (fun _ => none) 0 (some (.cells 8 [[.str [], .str [], cI 0, .ro true 1 [], .str [], cB false, .str [], cB false]]))) 1 (some (.cells 8 [[.str r_.1, .str [], cI 0, lstC true 2 1 ([] : List (List UInt8)).length, .str [], cB false, .str [], cB false]]))) 2 (lstB true 1 (([] : List (List UInt8)).map eStr))), 3⟩ from (weak_canon [0, 1, 1002] rfl (by decide) (by decide) nlz (.cons rfl (avAs_free rfl) (.cons rfl (avAs_free rfl) (.cons rfl (avAs_free rfl) (.cons rfl (avAs_free rfl) (.cons rfl (avAs_free rfl) (.cons rfl (.c (.ref rfl (by decide))) (.cons rfl (.c (.ref rfl (by decide))) .nil))))))) (.non (by decide) (.box (by decide) rfl (blkAs_cells (.cons (.same rfl) (.cons (.same rfl) (.cons (.same rfl) (.cons (.same rfl) (.cons (.same rfl) (.cons (.same rfl) (.cons (.same rfl) (.cons (.same rfl) .nil))))))))) (.box (by decide) rfl (blkAs_cells (.cons (.same rfl) (.cons (.same rfl) (.cons (.same rfl) (.cons (.same rfl) (.cons (.same rfl) (.cons (.same rfl) (.cons (.same rfl) (.cons (.same rfl) .nil))))))))) .nil))))) ?_
 obtain ⟨r_4, hr4, h⟩ := bnd h
 refine un (ac_gen (bs := [1, 2]) («as» := [(.c (.ref 1 8 0 0)), (S r_3)]) (h2 := _) (h1 := (upd (upd (fun _ => none) 1 (some (.cells 8 [[.str r_.1, .str [], cI 0, lstC true 2 1 ([] : List (List UInt8)).length, .str [], cB false, .str [], cB false]]))) 2 (lstB true 1 (([] : List (List UInt8)).map eStr)))) (url_place1_ok (fun _ => rfl) hr4) rfl (.cons (.c (.ref rfl (by decide))) (.cons (avAs_free rfl) .nil)) (hsub_refl _) (.cons rfl (.cons rfl (.nil _))) (fun h => by cases h) (by decide) (by decide) (.cons (.c (.ref rfl (by decide))) (.cons (avAs_free rfl) .nil)) (.row (by decide) rfl (fr_map fun _ => rfl) (.box (by decide) rfl (blkAs_cells (.cons (.same rfl) (.cons (.same rfl) (.cons (.same rfl) (.cons (lstC_ren rfl (by decide)) (.cons (.same rfl) (.cons (.same rfl) (.cons (.same rfl) (.cons (.same rfl) .nil))))))))) .nil)) ?_)
 rintro _ _ _ hn ⟨z_, hz_, rfl, rfl, rfl⟩
 refine ⟨.inl rfl, (upd (upd (rem [1, 2] _) 1 (some (.cells 8 [[.str r_4.2.Scheme, .str r_4.2.Host, cI r_4.2.Port, lstC z_ 3 1 r_4.2.Path.length, .str r_4.2.Query, cB r_4.2.Asks, .str r_4.2.Fragment, cB r_4.2.Points]]))) 3 (lstB z_ 1 (r_4.2.Path.map eStr))), fun hbd => (m3_cons (m3_row rfl (fr_map fun _ => rfl)) (m3_cons (m3_box rfl (by cases z_ <;> rfl)) (m3_rem (in_cons (by decide) (in_cons (by decide) (in_nil _))) (.cons (by decide) (.cons (by decide) .nil)) hbd))), (B r_4.1), 4, (by cases z_ <;> rfl), rfl, ?_⟩
 refine un (a1 (v := (B (!r_4.1))) rfl ?_)
 refine dnil ?_
 refine Sv.cond (b := (!r_4.1)) rfl (fun hc4 => ?_) (fun hc4 => ?_)
 ·replace h := ifT hc4 h
  refine Sv.seq ?_
  refine Sv.region ?_
  refine un (a1 (v := (.agg [.str [], .str [], cI 0, .ro true 1 [], .str [], cB false, .str [], cB false])) rfl ?_)
  refine un (a2n (h' := upd _ 0 (some (.cells 8 [[.str [], .str [], cI 0, .ro true 1 [], .str [], cB false, .str [], cB false]]))) (n' := 4) rfl rfl (fun h => by cases h) ?_)
  refine un (a1 rfl ?_)
  refine dnil ?_
  refine Sv.ret ?_
  replace h := Option.some.inj h
  subst h
  exact ⟨_, .refl _, _, rfl, ⟨upd (fun _ => none) 0 (some (.tup [(.agg [.str [], .str [], cI 0, .ro false 1 (([] : List (List UInt8)).map eStr), .str [], cB false, .str [], cB false]), (I 3)])), (fun _ => none), 0⟩, (.tup [(.agg [.str [], .str [], cI 0, .ro false 1 (([] : List (List UInt8)).map eStr), .str [], cB false, .str [], cB false]), (I 3)]), weak_canon [] rfl List.nodup_nil (Nat.le_refl _) nlz (.cons rfl (avAs_tup (.cons (avAs_agg (.cons (.same rfl) (.cons (.same rfl) (.cons (.same rfl) (.cons .nil (.cons (.same rfl) (.cons (.same rfl) (.cons (.same rfl) (.cons (.same rfl) .nil))))))))) (.cons (avAs_free rfl) .nil))) .nil) .nil, rfl, rfl, rfl, rfl⟩
 ·replace h := ifF hc4 h
  refine Sv.skip ?_
  refine Sv.seq ?_
  refine Sv.region ?_
  refine un (a1 rfl ?_)
  refine un (a1 rfl ?_)
  obtain ⟨r_5, hx2, h⟩ := bnd h
  refine un (a1 (v := (S r_5)) (s_slStr rfl rfl rfl hx2) ?_)
  obtain ⟨r_6, hr5, h⟩ := bnd h
  refine un (ac_gen (bs := [1, 3]) («as» := [(.c (.ref 1 8 0 0)), (S r_5)]) (h2 := _) (h1 := (upd (upd (fun _ => none) 1 (some (.cells 8 [[.str r_4.2.Scheme, .str r_4.2.Host, cI r_4.2.Port, lstC z_ 3 1 r_4.2.Path.length, .str r_4.2.Query, cB r_4.2.Asks, .str r_4.2.Fragment, cB r_4.2.Points]]))) 3 (lstB z_ 1 (r_4.2.Path.map eStr)))) (url_tail1_ok hz_ hr5) rfl (.cons (.c (.ref rfl (by decide))) (.cons (avAs_free rfl) .nil)) (hsub_refl _) (.cons rfl (.cons rfl (.nil _))) (fun h => by cases h) (by decide) (by decide) (.cons (.c (.ref rfl (by decide))) (.cons (avAs_free rfl) .nil)) (.row (by decide) rfl (fr_map fun _ => rfl) (.box (by decide) rfl (blkAs_cells (.cons (.same rfl) (.cons (.same rfl) (.cons (.same rfl) (.cons (lstC_ren rfl (by decide)) (.cons (.same rfl) (.cons (.same rfl) (.cons (.same rfl) (.cons (.same rfl) .nil))))))))) .nil)) ?_)
  rintro _ _ _ hn ⟨z_1, hz_1, rfl, rfl, rfl⟩
  refine ⟨.inl rfl, (upd (upd (rem [1, 3] _) 1 (some (.cells 8 [[.str r_6.2.2.Scheme, .str r_6.2.2.Host, cI r_6.2.2.Port, lstC z_1 4 1 r_6.2.2.Path.length, .str r_6.2.2.Query, cB r_6.2.2.Asks, .str r_6.2.2.Fragment, cB r_6.2.2.Points]]))) 4 (lstB z_1 1 (r_6.2.2.Path.map eStr))), fun hbd => (m3_cons (m3_row rfl (fr_map fun _ => rfl)) (m3_cons (m3_box rfl (by cases z_1 <;> rfl)) (m3_rem (in_cons (by decide) (in_cons (by decide) (in_nil _))) (.cons (by decide) (.cons (by decide) .nil)) hbd))), (.tup [(S r_6.1), (B r_6.2.1)]), 5, (by cases z_1 <;> rfl), rfl, ?_⟩
  refine un (a1 rfl ?_)
  refine un (a1 (v := (S r_6.1)) rfl ?_)
  refine un (a1 (v := (B r_6.2.1)) rfl ?_)
  refine un (a1 rfl ?_)
  refine un (a1 rfl ?_)
  refine dnil ?_
  refine Sv.seq ?_
  refine Sv.region ?_
  refine un (a1 rfl ?_)
  obtain ⟨r_7, hr6, h⟩ := bnd h
  refine un (ac_pure (strings_TrimPrefix_ok hr6) rfl rfl rfl ?_)
  obtain ⟨r_8, hr7, h⟩ := bnd h
  refine un (ac_gen (bs := []) («as» := [(S r_7)]) (h2 := _) (h1 := (fun _ => none)) (url_segments_ok hr7) rfl (.cons (avAs_free rfl) .nil) (hsub_refl _) (.nil _) (fun _ => rfl) (by decide) (by decide) (.cons (avAs_free rfl) .nil) .nil ?_)
  rintro _ _ _ hn ⟨z_2, hz_2, rfl, rfl, rfl⟩
  refine ⟨.inl rfl, (upd (rem [] _) 5 (lstB z_2 1 (r_8.1.map eStr))), fun hbd => (m3_cons (m3_row rfl (fr_map fun _ => rfl)) (m3_rem (in_nil _) (.cons (by decide) .nil) hbd)), (.tup [(lstV z_2 5 1 r_8.1.length), (B r_8.2)]), 6, (by cases z_2 <;> rfl), rfl, ?_⟩
  refine un (a1 rfl ?_)
  refine un (a1 (v := (lstV z_2 5 1 r_8.1.length)) rfl ?_)
  refine un (a1 (v := (B r_8.2)) rfl ?_)
  refine un (a1 rfl ?_)
  refine un (a1 rfl ?_)
  refine dnil ?_
  refine Sv.seq ?_
  refine Sv.seq ?_
  refine Sv.region ?_
  refine un (a1 rfl ?_)
  refine un (a1 (v := (B (!r_6.2.1))) rfl ?_)
  refine un (a1 rfl ?_)
  refine gjoin 3 (d := 68) (v := (B ((!r_6.2.1) || (!r_8.2)))) (fun X hX => ?_) ?_
  ·refine split2 (fun hc5 => ?_) (fun hc5 => ?_)
   ·refine gs rfl rfl ?_
    refine gs rfl rfl ?_
    refine un (a1 (v := (B true)) rfl ?_)
    refine dnil ?_
    exact hX _ (.putEq (by rw [hc5]; rfl) (.skip _ _ (.skip _ _ (.putEq (by rw [hc5]) (.refl _)) rfl) rfl))
   ·refine gt rfl (a1 rfl ?_)
    refine gt rfl (a1 (v := (B (!r_8.2))) rfl ?_)
    refine un (a1 (v := (B (!r_8.2))) rfl ?_)
    refine dnil ?_
    exact hX _ (.putEq (by rw [hc5]; rfl) (.skip _ _ (.skip _ _ (.putEq (by rw [hc5]) (.refl _)) rfl) rfl))
  refine dnil ?_
  refine Sv.cond (b := ((!r_6.2.1) || (!r_8.2))) rfl (fun hc6 => ?_) (fun hc6 => ?_)
  ·replace h := ifT hc6 h
   refine Sv.seq ?_
   refine Sv.region ?_
   refine un (a1 (v := (.agg [.str [], .str [], cI 0, .ro true 1 [], .str [], cB false, .str [], cB false])) rfl ?_)
   refine un (a2n (h' := upd _ 0 (some (.cells 8 [[.str [], .str [], cI 0, .ro true 1 [], .str [], cB false, .str [], cB false]]))) (n' := 6) rfl rfl (fun h => by cases h) ?_)
   refine un (a1 rfl ?_)
   refine dnil ?_
   refine Sv.ret ?_
   replace h := Option.some.inj h
   subst h
   exact ⟨_, .refl _, _, rfl, ⟨upd (fun _ => none) 0 (some (.tup [(.agg [.str [], .str [], cI 0, .ro false 1 (([] : List (List UInt8)).map eStr), .str [], cB false, .str [], cB false]), (I 3)])), (fun _ => none), 0⟩, (.tup [(.agg [.str [], .str [], cI 0, .ro false 1 (([] : List (List UInt8)).map eStr), .str [], cB false, .str [], cB false]), (I 3)]), weak_canon [] rfl List.nodup_nil (Nat.le_refl _) nlz (.cons rfl (avAs_tup (.cons (avAs_agg (.cons (.same rfl) (.cons (.same rfl) (.cons (.same rfl) (.cons .nil (.cons (.same rfl) (.cons (.same rfl) (.cons (.same rfl) (.cons (.same rfl) .nil))))))))) (.cons (avAs_free rfl) .nil))) .nil) .nil, rfl, rfl, rfl, rfl⟩
  ·replace h := ifF hc6 h
   refine Sv.skip ?_
   refine Sv.seq ?_
   refine Sv.region ?_
   refine un (a1 rfl ?_)
   obtain ⟨r_9, hr8, h⟩ := bnd h
   refine un (ac_gen (bs := []) («as» := [(.c (.ro false 1 (r_8.1.map eStr)))]) (h2 := (upd _ 5 none)) (h1 := (fun _ => none)) (url_tidy_ok hr8) rfl (.cons (.c (lstC_ro (es := List.map eStr r_8.1) rfl (List.length_map eStr).symm (map_nil_of hz_2) (gone rfl) (fr_map fun _ => rfl))) .nil) (hsub_none (hsub_refl _)) (.nil _) (fun _ => rfl) (by decide) (by decide) (.cons (avAs_free rfl) .nil) .nil ?_)
   rintro _ _ _ hn ⟨z_3, hz_3, rfl, rfl, rfl⟩
   refine ⟨.inr ⟨(by cases z_3 <;> rfl), (.row (cl_map fun _ => rfl) .nil)⟩, (upd (rem [] _) 6 (lstB z_3 1 (r_9.map eStr))), fun hbd => (m3_cons (m3_row rfl (fr_map fun _ => rfl)) (m3_rem (in_nil _) (.cons (by decide) .nil) hbd)), (lstV z_3 6 1 r_9.length), 7, (by cases z_3 <;> rfl), rfl, ?_⟩
   refine un (a1 (v := (.c (.ref 1 8 0 3))) rfl ?_)
   refine un (a2n (h' := upd _ 1 (some (.cells 8 [[.str r_6.2.2.Scheme, .str r_6.2.2.Host, cI r_6.2.2.Port, lstC z_3 6 1 r_9.length, .str r_6.2.2.Query, cB r_6.2.2.Asks, .str r_6.2.2.Fragment, cB r_6.2.2.Points]]))) (n' := 7) rfl rfl (fun h => by cases h) ?_)
   refine dnil ?_
   refine Sv.seq ?_
   refine Sv.region ?_
   refine un (a1 (v := (.agg [.str r_6.2.2.Scheme, .str r_6.2.2.Host, cI r_6.2.2.Port, lstC z_3 6 1 r_9.length, .str r_6.2.2.Query, cB r_6.2.2.Asks, .str r_6.2.2.Fragment, cB r_6.2.2.Points])) rfl ?_)
   refine un (a2n (h' := upd _ 0 (some (.cells 8 [[.str r_6.2.2.Scheme, .str r_6.2.2.Host, cI r_6.2.2.Port, lstC z_3 6 1 r_9.length, .str r_6.2.2.Query, cB r_6.2.2.Asks, .str r_6.2.2.Fragment, cB r_6.2.2.Points]]))) (n' := 7) rfl rfl (fun h => by cases h) ?_)
   refine un (a1 rfl ?_)
   refine dnil ?_
   refine Sv.ret ?_
   replace h := Option.some.inj h
   subst h
   exact ⟨_, .refl _, _, rfl, ⟨upd (fun _ => none) 0 (some (.tup [(.agg [.str r_6.2.2.Scheme, .str r_6.2.2.Host, cI r_6.2.2.Port, .ro false 1 (r_9.map eStr), .str r_6.2.2.Query, cB r_6.2.2.Asks, .str r_6.2.2.Fragment, cB r_6.2.2.Points]), (I 0)])), (fun _ => none), 0⟩, (.tup [(.agg [.str r_6.2.2.Scheme, .str r_6.2.2.Host, cI r_6.2.2.Port, .ro false 1 (r_9.map eStr), .str r_6.2.2.Query, cB r_6.2.2.Asks, .str r_6.2.2.Fragment, cB r_6.2.2.Points]), (I 0)]), weak_canon [] rfl List.nodup_nil (Nat.le_refl _) nlz (.cons rfl (avAs_tup (.cons (avAs_agg (.cons (.same rfl) (.cons (.same rfl) (.cons (.same rfl) (.cons (lstC_ro (es := List.map eStr r_9) rfl (List.length_map eStr).symm (map_nil_of hz_3) (fun b x hx => not_in (bs := []) rfl b (((.nil) : HLt _ _) b x hx)) (fr_map fun _ => rfl)) (.cons (.same rfl) (.cons (.same rfl) (.cons (.same rfl) (.cons (.same rfl) .nil))))))))) (.cons (avAs_free rfl) .nil))) .nil) .nil, rfl, rfl, rfl, rfl⟩
/-- clerestory/url.Parse -/
noncomputable def url_Parse (s_ : (List UInt8)) : Option (TJUrl × Int) :=
 if decide (500 < (s_.length : Int)) then
  some ((⟨[], [], 0, [], [], false, [], false⟩ : TJUrl), 2)
 else
  (url_scheme s_).bind fun r_ =>
  (strings_CutPrefix r_.2.1 [47, 47]).bind fun r_1 =>
  if ((!r_.2.2) || (!r_1.2)) then
   some ((⟨[], [], 0, [], [], false, [], false⟩ : TJUrl), 3)
  else
   (strings_IndexAny r_1.1 [47, 63, 35]).bind fun r_2 =>
   if decide (r_2 < 0) then
    url_Parse_j1 r_1 r_ (r_1.1.length : Int)
   else
    url_Parse_j1 r_1 r_ r_2
theorem url_Parse_ok {mL : Int} {s_ : (List UInt8)} {r : (TJUrl × Int)} (h : url_Parse s_ = some r) : CPure Tryz.prog (GG mL) 6 [(S s_)] (.tup [(.agg [.str r.1.Scheme, .str r.1.Host, cI r.1.Port, .ro false 1 (r.1.Path.map eStr), .str r.1.Query, cB r.1.Asks, .str r.1.Fragment, cB r.1.Points]), (I r.2)]) := by
 refine acalls_of_sv hmix c6 (R := url_Parse_post r) ?_
 unfold url_Parse at h
 refine Sv.seq ?_
 refine Sv.region ?_
 refine un (a2v (v := (.c (.ref 0 8 0 0))) (h' := upd _ 0 (some (.cells 8 [[.str [], .str [], cI 0, .ro true 1 [], .str [], cB false, .str [], cB false]]))) (n' := 1) rfl rfl (fun h => by cases h) ?_)
 refine un (a1 rfl ?_)
 refine dnil ?_
 refine Sv.seq ?_
 refine Sv.seq ?_
 refine Sv.region ?_
 refine un (a1 rfl ?_)
 refine un (a1 (v := (I (s_.length : Int))) rfl ?_)
 refine un (a1 (v := (B (decide (500 < (s_.length : Int))))) rfl ?_)
 refine dnil ?_
 refine Sv.cond (b := decide (500 < (s_.length : Int))) rfl (fun hc1 => ?_) (fun hc1 => ?_)
 ·replace h := ifT hc1 h
  refine Sv.seq ?_
  refine Sv.region ?_
  refine un (a1 (v := (.agg [.str [], .str [], cI 0, .ro true 1 [], .str [], cB false, .str [], cB false])) rfl ?_)
  refine un (a2n (h' := upd _ 0 (some (.cells 8 [[.str [], .str [], cI 0, .ro true 1 [], .str [], cB false, .str [], cB false]]))) (n' := 1) rfl rfl (fun h => by cases h) ?_)
  refine un (a1 rfl ?_)
  refine dnil ?_
  refine Sv.ret ?_
  replace h := Option.some.inj h
  subst h
  exact ⟨_, .refl _, _, rfl, ⟨upd (fun _ => none) 0 (some (.tup [(.agg [.str [], .str [], cI 0, .ro false 1 (([] : List (List UInt8)).map eStr), .str [], cB false, .str [], cB false]), (I 2)])), (fun _ => none), 0⟩, (.tup [(.agg [.str [], .str [], cI 0, .ro false 1 (([] : List (List UInt8)).map eStr), .str [], cB false, .str [], cB false]), (I 2)]), weak_canon [] rfl List.nodup_nil (Nat.le_refl _) nlz (.cons rfl (avAs_tup (.cons (avAs_agg (.cons (.same rfl) (.cons (.same rfl) (.cons (.same rfl) (.cons .nil (.cons (.same rfl) (.cons (.same rfl) (.cons (.same rfl) (.cons (.same rfl) .nil))))))))) (.cons (avAs_free rfl) .nil))) .nil) .nil, rfl, rfl, rfl, rfl⟩
 ·replace h := ifF hc1 h
  refine Sv.skip ?_
  refine Sv.seq ?_
  refine Sv.region ?_
  refine un (a2v (v := (.c (.ref 1 8 0 0))) (h' := upd _ 1 (some (.cells 8 [[.str [], .str [], cI 0, .ro true 1 [], .str [], cB false, .str [], cB false]]))) (n' := 2) rfl rfl (fun h => by cases h) ?_)
  refine dnil ?_
  refine Sv.seq ?_
  refine Sv.region ?_
  refine un (a1 rfl ?_)
  obtain ⟨r_, hr1, h⟩ := bnd h
  refine un (ac_pure (url_scheme_ok hr1) rfl rfl rfl ?_)
  refine un (a1 rfl ?_)
  refine un (a1 (v := (S r_.1)) rfl ?_)
  refine un (a1 (v := (S r_.2.1)) rfl ?_)
  refine un (a1 (v := (B r_.2.2)) rfl ?_)
  refine un (a1 rfl ?_)
  refine un (a1 rfl ?_)
  refine un (a1 rfl ?_)
  refine dnil ?_
  refine Sv.seq ?_
  refine Sv.region ?_
  refine un (a1 rfl ?_)
  obtain ⟨r_1, hr2, h⟩ := bnd h
  refine un (ac_pure (strings_CutPrefix_ok hr2) rfl rfl rfl ?_)
  refine un (a1 rfl ?_)
  refine un (a1 (v := (S r_1.1)) rfl ?_)
  refine un (a1 (v := (B r_1.2)) rfl ?_)
  refine un (a1 rfl ?_)
  refine un (a1 rfl ?_)
  refine dnil ?_
  refine Sv.seq ?_
  refine Sv.seq ?_
  refine Sv.region ?_
  refine un (a1 rfl ?_)
  refine un (a1 (v := (B (!r_.2.2))) rfl ?_)
  refine un (a1 rfl ?_)
  refine gjoin 3 (d := 34) (v := (B ((!r_.2.2) || (!r_1.2)))) (fun X hX => ?_) ?_
  ·refine split2 (fun hc2 => ?_) (fun hc2 => ?_)
   ·refine gs rfl rfl ?_
    refine gs rfl rfl ?_
    refine un (a1 (v := (B true)) rfl ?_)
    refine dnil ?_
    exact hX _ (.putEq (by rw [hc2]; rfl) (.skip _ _ (.skip _ _ (.putEq (by rw [hc2]) (.refl _)) rfl) rfl))
   ·refine gt rfl (a1 rfl ?_)
    refine gt rfl (a1 (v := (B (!r_1.2))) rfl ?_)
    refine un (a1 (v := (B (!r_1.2))) rfl ?_)
    refine dnil ?_
    exact hX _ (.putEq (by rw [hc2]; rfl) (.skip _ _ (.skip _ _ (.putEq (by rw [hc2]) (.refl _)) rfl) rfl))
  refine dnil ?_
  refine Sv.cond (b := ((!r_.2.2) || (!r_1.2))) rfl (fun hc3 => ?_) (fun hc3 => ?_)
  ·replace h := ifT hc3 h
   refine Sv.seq ?_
   refine Sv.region ?_
   refine un (a1 (v := (.agg [.str [], .str [], cI 0, .ro true 1 [], .str [], cB false, .str [], cB false])) rfl ?_)
   refine un (a2n (h' := upd _ 0 (some (.cells 8 [[.str [], .str [], cI 0, .ro true 1 [], .str [], cB false, .str [], cB false]]))) (n' := 2) rfl rfl (fun h => by cases h) ?_)
   refine un (a1 rfl ?_)
   refine dnil ?_
   refine Sv.ret ?_
   replace h := Option.some.inj h
   subst h
   exact ⟨_, .refl _, _, rfl, ⟨upd (fun _ => none) 0 (some (.tup [(.agg [.str [], .str [], cI 0, .ro false 1 (([] : List (List UInt8)).map eStr), .str [], cB false, .str [], cB false]), (I 3)])), (fun _ => none), 0⟩, (.tup [(.agg [.str [], .str [], cI 0, .ro false 1 (([] : List (List UInt8)).map eStr), .str [], cB false, .str [], cB false]), (I 3)]), weak_canon [] rfl List.nodup_nil (Nat.le_refl _) nlz (.cons rfl (avAs_tup (.cons (avAs_agg (.cons (.same rfl) (.cons (.same rfl) (.cons (.same rfl) (.cons .nil (.cons (.same rfl) (.cons (.same rfl) (.cons (.same rfl) (.cons (.same rfl) .nil))))))))) (.cons (avAs_free rfl) .nil))) .nil) .nil, rfl, rfl, rfl, rfl⟩
  ·replace h := ifF hc3 h
   refine Sv.skip ?_
   refine Sv.seq ?_
   refine Sv.region ?_
   refine un (a1 rfl ?_)
   refine un (a1 (v := (.c (.ref 1 8 0 0))) rfl ?_)
   refine un (a2n (h' := upd _ 1 (some (.cells 8 [[.str r_.1, .str [], cI 0, .ro true 1 [], .str [], cB false, .str [], cB false]]))) (n' := 2) rfl rfl (fun h => by cases h) ?_)
   refine dnil ?_
   refine Sv.seq ?_
   refine Sv.region ?_
   refine un (a1 rfl ?_)
   obtain ⟨r_2, hr3, h⟩ := bnd h
   refine un (ac_pure (strings_IndexAny_ok hr3) rfl rfl rfl ?_)
   refine un (a1 rfl ?_)
   refine dnil ?_
   refine Sv.seq ?_
   refine Sv.seq ?_
   refine Sv.region ?_
   refine un (a1 rfl ?_)
   refine un (a1 (v := (B (decide (r_2 < 0)))) rfl ?_)
   refine dnil ?_
   refine Sv.cond (b := decide (r_2 < 0)) rfl (fun hc7 => ?_) (fun hc7 => ?_)
   ·replace h := ifT hc7 h
    refine Sv.region ?_
    refine un (a1 rfl ?_)
    refine un (a1 (v := (I (r_1.1.length : Int))) rfl ?_)
    refine un (a1 rfl ?_)
    refine dnil ?_
    exact Sv.weak (weak_canon [0, 1] rfl (by decide) (by decide) nlz (.cons rfl (avAs_free rfl) (.cons rfl (avAs_free rfl) (.cons rfl (.c (.ref rfl (by decide))) (.cons rfl (.c (.ref rfl (by decide))) .nil)))) (.box (by decide) rfl (blkAs_cells (.cons (.same rfl) (.cons (.same rfl) (.cons (.same rfl) (.cons (.same rfl) (.cons (.same rfl) (.cons (.same rfl) (.cons (.same rfl) (.cons (.same rfl) .nil))))))))) (.box (by decide) rfl (blkAs_cells (.cons (.same rfl) (.cons (.same rfl) (.cons (.same rfl) (.cons (.same rfl) (.cons (.same rfl) (.cons (.same rfl) (.cons (.same rfl) (.cons (.same rfl) .nil))))))))) .nil))) (url_Parse_j1_ok h)
   ·replace h := ifF hc7 h
    refine Sv.skip ?_
    exact Sv.weak (weak_canon [0, 1] rfl (by decide) (by decide) nlz (.cons rfl (avAs_free rfl) (.cons rfl (avAs_free rfl) (.cons rfl (.c (.ref rfl (by decide))) (.cons rfl (.c (.ref rfl (by decide))) .nil)))) (.box (by decide) rfl (blkAs_cells (.cons (.same rfl) (.cons (.same rfl) (.cons (.same rfl) (.cons (.same rfl) (.cons (.same rfl) (.cons (.same rfl) (.cons (.same rfl) (.cons (.same rfl) .nil))))))))) (.box (by decide) rfl (blkAs_cells (.cons (.same rfl) (.cons (.same rfl) (.cons (.same rfl) (.cons (.same rfl) (.cons (.same rfl) (.cons (.same rfl) (.cons (.same rfl) (.cons (.same rfl) .nil))))))))) .nil))) (url_Parse_j1_ok h)
noncomputable abbrev strconv_Itoa (i_ : Int) : Option (List UInt8) := itoa? i_
/-- strconv.Itoa, by the contract of the shelf -/
theorem strconv_Itoa_ok {mL : Int} {i_ : Int} {r : (List UInt8)} (h : strconv_Itoa i_ = some r) : CPure Tryz.prog (GG mL) 36 [(I i_)] (S r) := itoa_ok (g := 3) Tryz.laysM171 (by kernel_rfl) (by kernel_rfl) h
def a25_c0 : ACode := (.seq (.region [(mV 19 3), (mV 2 19)])
 .ret)
def a25 : AFunc := ⟨1, [(.tmp 2)], (.seq (.region [(oP 1 (.box (.tmp 0))), ⟨(some 2), (.mov (.const (.c (.str [])))), none⟩])
 (.seq (.region [(oP 4 (.faddr 0 (.tmp 1))), (oP 5 (.load false 1 (.tmp 4))), ⟨(some 6), (.bin .add (.tmp 5) (.const (.c (.str [58, 47, 47])))), none⟩, (oP 7 (.faddr 1 (.tmp 1))), (oP 8 (.load false 1 (.tmp 7))), (oP 9 (.bin .add (.tmp 6) (.tmp 8))), (mV 3 9)])
 (.seq (.seq (.region [(oP 10 (.faddr 2 (.tmp 1))), (oP 11 (.load false 1 (.tmp 10))), ⟨(some 12), (.bin .neq (.tmp 11) (kI 0)), none⟩])
 (.cond (.tmp 12) (.region [(mV 13 3), (oP 14 (.faddr 2 (.tmp 1))), (oP 15 (.load false 1 (.tmp 14))), (oP 16 (.call 36 [(.tmp 15)])), ⟨(some 17), (.bin .add (.const (.c (.str [58]))) (.tmp 16)), none⟩, (oP 18 (.bin .add (.tmp 13) (.tmp 17))), (mV 3 18)]) .skip))
 a25_c0)))⟩
set_option maxRecDepth 100000 in
theorem c25 : compFunc Tryz.prog 25 = some a25 := by kernel_rfl
def url_origin_post (r : (List UInt8)) : AV → Heap → Nat → Prop := fun v h' n' => v = (S r) ∧ (h' = (fun _ => none)) ∧ n' = 0
noncomputable def url_origin_j1 (out : (List UInt8)) : Option (List UInt8) :=
 some out
theorem url_origin_j1_ok {mL : Int} {out : (List UInt8)} {o : (List UInt8)} (h : url_origin_j1 out = some o) :
  Sv Tryz.prog (GG mL) 0 a25_c0 (Ends a25.results 0 (url_origin_post o)) ⟨(upd (fun _ => none) 3 (some (S out))), (fun _ => none), 0⟩ := by
 unfold url_origin_j1 at h
 refine Sv.seq ?_
 refine Sv.region ?_
 refine un (a1 rfl ?_)
 refine un (a1 rfl ?_)
 refine dnil ?_
 refine Sv.ret ?_
 replace h := Option.some.inj h
 subst h
 exact ⟨_, .refl _, _, rfl, ⟨upd (fun _ => none) 0 (some (S out)), (fun _ => none), 0⟩, (S out), weak_canon [] rfl List.nodup_nil (Nat.le_refl _) nlz (.cons rfl (avAs_free rfl) .nil) .nil, rfl, rfl, rfl, rfl⟩
/-- clerestory/url.origin -/
noncomputable def url_origin (u_ : TJUrl) : Option (List UInt8) :=
 (cat? u_.Scheme [58, 47, 47]).bind fun r_ =>
 (cat? r_ u_.Host).bind fun r_1 =>
 if (!decide (u_.Port = 0)) then
  (strconv_Itoa u_.Port).bind fun r_2 =>
  (cat? [58] r_2).bind fun r_3 =>
  (cat? r_1 r_3).bind fun r_4 =>
  url_origin_j1 r_4
 else
  url_origin_j1 r_1
theorem url_origin_ok {mL : Int} {u_ : TJUrl} {r : (List UInt8)} (h : url_origin u_ = some r) : CPure Tryz.prog (GG mL) 25 [(.agg [.str u_.Scheme, .str u_.Host, cI u_.Port, .ro false 1 (u_.Path.map eStr), .str u_.Query, cB u_.Asks, .str u_.Fragment, cB u_.Points])] (S r) := by
 refine acalls_of_sv hmix c25 (R := url_origin_post r) ?_
 unfold url_origin at h
 refine Sv.seq ?_
 refine Sv.region ?_
 refine un (a2v (v := (.c (.ref 0 8 0 0))) (h' := upd _ 0 (some (.cells 8 [[.str u_.Scheme, .str u_.Host, cI u_.Port, .ro false 1 (u_.Path.map eStr), .str u_.Query, cB u_.Asks, .str u_.Fragment, cB u_.Points]]))) (n' := 1) rfl rfl (fun h => by cases h) ?_)
 refine un (a1 rfl ?_)
 refine dnil ?_
 refine Sv.seq ?_
 refine Sv.region ?_
 refine un (a1 (v := (.c (.ref 0 8 0 0))) rfl ?_)
 refine un (a1 (v := (S u_.Scheme)) rfl ?_)
 obtain ⟨r_, hx1, h⟩ := bnd h
 refine un (a1 (v := (S r_)) (s_cat rfl rfl hx1) ?_)
 refine un (a1 (v := (.c (.ref 0 8 0 1))) rfl ?_)
 refine un (a1 (v := (S u_.Host)) rfl ?_)
 obtain ⟨r_1, hx2, h⟩ := bnd h
 refine un (a1 (v := (S r_1)) (s_cat rfl rfl hx2) ?_)
 refine un (a1 rfl ?_)
 refine dnil ?_
 refine Sv.seq ?_
 refine Sv.seq ?_
 refine Sv.region ?_
 refine un (a1 (v := (.c (.ref 0 8 0 2))) rfl ?_)
 refine un (a1 (v := (I u_.Port)) rfl ?_)
 refine un (a1 (v := (B (!decide (u_.Port = 0)))) rfl ?_)
 refine dnil ?_
 refine Sv.cond (b := (!decide (u_.Port = 0))) rfl (fun hc1 => ?_) (fun hc1 => ?_)
 ·replace h := ifT hc1 h
  refine Sv.region ?_
  refine un (a1 rfl ?_)
  refine un (a1 (v := (.c (.ref 0 8 0 2))) rfl ?_)
  refine un (a1 (v := (I u_.Port)) rfl ?_)
  obtain ⟨r_2, hr1, h⟩ := bnd h
  refine un (ac_pure (strconv_Itoa_ok hr1) rfl rfl rfl ?_)
  obtain ⟨r_3, hx3, h⟩ := bnd h
  refine un (a1 (v := (S r_3)) (s_cat rfl rfl hx3) ?_)
  obtain ⟨r_4, hx4, h⟩ := bnd h
  refine un (a1 (v := (S r_4)) (s_cat rfl rfl hx4) ?_)
  refine un (a1 rfl ?_)
  refine dnil ?_
  exact Sv.weak (weak_canon [] rfl (by decide) (by decide) nlz (.cons rfl (avAs_free rfl) .nil) .nil) (url_origin_j1_ok h)
 ·replace h := ifF hc1 h
  refine Sv.skip ?_
  exact Sv.weak (weak_canon [] rfl (by decide) (by decide) nlz (.cons rfl (avAs_free rfl) .nil) .nil) (url_origin_j1_ok h)
def a7 : AFunc := ⟨1, [(.tmp 2), (.tmp 3)], (.seq (.region [⟨(some 2), (.mov (.const (.c (.str [])))), none⟩, ⟨(some 3), (.mov (kI 0)), none⟩])
 (.seq (.region [(mV 7 0), (oP 8 (.call 6 [(.tmp 7)])), (mV 6 8), (oP 9 (.ext (.tmp 6) 0)), (oP 10 (.ext (.tmp 6) 1)), ⟨(some 4), (.box (.const (.agg [(.str []), (.str []), (.val (.int .i64 0)), (.ro true 1 []), (.str []), (.val (.bool false)), (.str []), (.val (.bool false))]))), none⟩, ⟨none, (.store 8 (.tmp 4) (.tmp 9)), none⟩, (mV 5 10)])
 (.seq (.seq (.region [(mV 11 5), ⟨(some 12), (.bin .neq (.tmp 11) (kI 0)), none⟩])
 (.cond (.tmp 12) (.seq (.region [(mV 13 5), ⟨(some 2), (.mov (.const (.c (.str [])))), none⟩, (mV 3 13)])
 .ret) .skip))
 (.seq (.region [(oP 14 (.load true 8 (.tmp 4))), (oP 15 (.call 25 [(.tmp 14)])), (mV 2 15), ⟨(some 3), (.mov (kI 0)), none⟩])
 .ret))))⟩
set_option maxRecDepth 100000 in
theorem c7 : compFunc Tryz.prog 7 = some a7 := by kernel_rfl
def url_Origin_post (r : ((List UInt8) × Int)) : AV → Heap → Nat → Prop := fun v h' n' => v = (.tup [(S r.1), (I r.2)]) ∧ (h' = (fun _ => none)) ∧ n' = 0
/-- clerestory/url.Origin -/
noncomputable def url_Origin (s_ : (List UInt8)) : Option ((List UInt8) × Int) :=
 (url_Parse s_).bind fun r_ =>
 if (!decide (r_.2 = 0)) then
  some ([], r_.2)
 else
  (url_origin r_.1).bind fun r_1 =>
  some (r_1, 0)
theorem url_Origin_ok {mL : Int} {s_ : (List UInt8)} {r : ((List UInt8) × Int)} (h : url_Origin s_ = some r) : CPure Tryz.prog (GG mL) 7 [(S s_)] (.tup [(S r.1), (I r.2)]) := by
 refine acalls_of_sv hmix c7 (R := url_Origin_post r) ?_
 unfold url_Origin at h
 refine Sv.seq ?_
 refine Sv.region ?_
 refine un (a1 rfl ?_)
 refine un (a1 rfl ?_)
 refine dnil ?_
 refine Sv.seq ?_
 refine Sv.region ?_
 refine un (a1 rfl ?_)
 obtain ⟨r_, hr1, h⟩ := bnd h
 refine un (ac_pure (url_Parse_ok hr1) rfl rfl rfl ?_)
 refine un (a1 rfl ?_)
 refine un (a1 (v := (.agg [.str r_.1.Scheme, .str r_.1.Host, cI r_.1.Port, .ro false 1 (r_.1.Path.map eStr), .str r_.1.Query, cB r_.1.Asks, .str r_.1.Fragment, cB r_.1.Points])) rfl ?_)
 refine un (a1 (v := (I r_.2)) rfl ?_)
 refine un (a2v (v := (.c (.ref 0 8 0 0))) (h' := upd _ 0 (some (.cells 8 [[.str [], .str [], cI 0, .ro true 1 [], .str [], cB false, .str [], cB false]]))) (n' := 1) rfl rfl (fun h => by cases h) ?_)
 refine un (a2n (h' := upd _ 0 (some (.cells 8 [[.str r_.1.Scheme, .str r_.1.Host, cI r_.1.Port, .ro false 1 (r_.1.Path.map eStr), .str r_.1.Query, cB r_.1.Asks, .str r_.1.Fragment, cB r_.1.Points]]))) (n' := 1) rfl rfl (fun h => by cases h) ?_)
 refine un (a1 rfl ?_)
 refine dnil ?_
 refine Sv.seq ?_
 refine Sv.seq ?_
 refine Sv.region ?_
 refine un (a1 rfl ?_)
 refine un (a1 (v := (B (!decide (r_.2 = 0)))) rfl ?_)
 refine dnil ?_
 refine Sv.cond (b := (!decide (r_.2 = 0))) rfl (fun hc1 => ?_) (fun hc1 => ?_)
 ·replace h := ifT hc1 h
  refine Sv.seq ?_
  refine Sv.region ?_
  refine un (a1 rfl ?_)
  refine un (a1 rfl ?_)
  refine un (a1 rfl ?_)
  refine dnil ?_
  refine Sv.ret ?_
  replace h := Option.some.inj h
  subst h
  exact ⟨_, .refl _, _, rfl, ⟨upd (fun _ => none) 0 (some (.tup [(S []), (I r_.2)])), (fun _ => none), 0⟩, (.tup [(S []), (I r_.2)]), weak_canon [] rfl List.nodup_nil (Nat.le_refl _) nlz (.cons rfl (avAs_tup (.cons (avAs_free rfl) (.cons (avAs_free rfl) .nil))) .nil) .nil, rfl, rfl, rfl, rfl⟩
 ·replace h := ifF hc1 h
  refine Sv.skip ?_
  refine Sv.seq ?_
  refine Sv.region ?_
  refine un (a1 (v := (.agg [.str r_.1.Scheme, .str r_.1.Host, cI r_.1.Port, .ro false 1 (r_.1.Path.map eStr), .str r_.1.Query, cB r_.1.Asks, .str r_.1.Fragment, cB r_.1.Points])) rfl ?_)
  obtain ⟨r_1, hr2, h⟩ := bnd h
  refine un (ac_pure (url_origin_ok hr2) rfl rfl rfl ?_)
  refine un (a1 rfl ?_)
  refine un (a1 rfl ?_)
  refine dnil ?_
  refine Sv.ret ?_
  replace h := Option.some.inj h
  subst h
  exact ⟨_, .refl _, _, rfl, ⟨upd (fun _ => none) 0 (some (.tup [(S r_1), (I 0)])), (fun _ => none), 0⟩, (.tup [(S r_1), (I 0)]), weak_canon [] rfl List.nodup_nil (Nat.le_refl _) nlz (.cons rfl (avAs_tup (.cons (avAs_free rfl) (.cons (avAs_free rfl) .nil))) .nil) .nil, rfl, rfl, rfl, rfl⟩
noncomputable abbrev strings_Index (s_ : (List UInt8)) (substr_ : (List UInt8)) : Option Int := index? s_ substr_
/-- strings.Index, by the contract of the shelf -/
theorem strings_Index_ok {mL : Int} {s_ : (List UInt8)} {substr_ : (List UInt8)} {r : Int} (h : strings_Index s_ substr_ = some r) : CPure Tryz.prog (GG mL) 58 [(S s_), (S substr_)] (I r) := index_ok (m := mL) Tryz.lays143 rfl h
def a32 : AFunc := ⟨3, [(.tmp 6)], (.seq (.region [⟨(some 6), (.mov (.const (.c (.val (.bool false))))), none⟩])
 (.seq (.region [(mV 7 1), (mV 8 0), (oP 9 (.bin .leq (.tmp 7) (.tmp 8))), (mV 10 9), ⟨(some 11), (.mov (.tmp 0)), (some (10, true))⟩, ⟨(some 12), (.mov (.tmp 2)), (some (10, true))⟩, ⟨(some 13), (.bin .leq (.tmp 11) (.tmp 12)), (some (10, true))⟩, ⟨(some 14), (.pick (.tmp 10) (.tmp 13) (.const (.c (.val (.bool false))))), none⟩, (mV 6 14)])
 .ret))⟩
set_option maxRecDepth 100000 in
theorem c32 : compFunc Tryz.prog 32 = some a32 := by kernel_rfl
def r4_Between_post (r : Bool) : AV → Heap → Nat → Prop := fun v h' n' => v = (B r) ∧ (h' = (fun _ => none)) ∧ n' = 0
/-- clerestory/clerestoryref4.Between -/
def r4_Between (n_ : Int) (low : Int) (high : Int) : Bool :=
 ((decide (low ≤ n_)) && (decide (n_ ≤ high)))
theorem r4_Between_ok {mL : Int} (n_ : Int) (low : Int) (high : Int) : CPure Tryz.prog (GG mL) 32 [(I n_), (I low), (I high)] (B (r4_Between n_ low high)) := by
 generalize h : r4_Between n_ low high = o
 refine acalls_of_sv hmix c32 (R := r4_Between_post o) ?_
 unfold r4_Between at h
 refine Sv.seq ?_
 refine Sv.region ?_
 refine un (a1 rfl ?_)
 refine dnil ?_
 refine Sv.seq ?_
 refine Sv.region ?_
 refine un (a1 rfl ?_)
 refine un (a1 rfl ?_)
 refine un (a1 (v := (B (decide (low ≤ n_)))) rfl ?_)
 refine un (a1 rfl ?_)
 refine gjoin 4 (d := 14) (v := (B ((decide (low ≤ n_)) && (decide (n_ ≤ high))))) (fun X hX => ?_) ?_
 ·refine split2 (fun hc1 => ?_) (fun hc1 => ?_)
  ·refine gt rfl (a1 rfl ?_)
   refine gt rfl (a1 rfl ?_)
   refine gt rfl (a1 (v := (B (decide (n_ ≤ high)))) rfl ?_)
   refine un (a1 (v := (B (decide (n_ ≤ high)))) rfl ?_)
   refine dnil ?_
   exact hX _ (.putEq (by rw [hc1]; rfl) (.skip _ _ (.skip _ _ (.skip _ _ (.putEq (by rw [hc1]) (.refl _)) rfl) rfl) rfl))
  ·refine gs rfl rfl ?_
   refine gs rfl rfl ?_
   refine gs rfl rfl ?_
   refine un (a1 (v := (B false)) rfl ?_)
   refine dnil ?_
   exact hX _ (.putEq (by rw [hc1]; rfl) (.skip _ _ (.skip _ _ (.skip _ _ (.putEq (by rw [hc1]) (.refl _)) rfl) rfl) rfl))
 refine un (a1 rfl ?_)
 refine dnil ?_
 refine Sv.ret ?_
 subst h
 exact ⟨_, .refl _, _, rfl, ⟨upd (fun _ => none) 0 (some (B ((decide (low ≤ n_)) && (decide (n_ ≤ high))))), (fun _ => none), 0⟩, (B ((decide (low ≤ n_)) && (decide (n_ ≤ high)))), weak_canon [] rfl List.nodup_nil (Nat.le_refl _) nlz (.cons rfl (avAs_free rfl) .nil) .nil, rfl, rfl, rfl, rfl⟩
def a30_c0 : ACode := (.region [⟨(some 23), (.bin .add (.tmp 10) (kI 1)), none⟩, (mV 10 23)])
def a30_c1 : ACode := (.seq (.region [(oP 11 (.bin .lss (.tmp 10) (.tmp 9)))])
 (.seq (.cond (.tmp 11) .skip (.exit 0))
 (.seq (.block 1 (.seq (.region [(mV 12 10), (oP 13 (.iaddr 1 (.tmp 8) (.tmp 10))), (oP 14 (.load false 1 (.tmp 13))), (mV 4 12), (mV 5 14)])
 (.seq (.region [(mV 15 5), (oP 16 (.conv .i64 (.tmp 15))), ⟨(some 17), (.call 32 [(.tmp 16), (kI 65), (kI 90)]), none⟩])
 (.cond (.tmp 17) (.region [(mV 18 3), (mV 19 4), (mV 20 5), ⟨(some 21), (.bin .add (.tmp 20) (.const (.c (.val (.int .u8 32))))), none⟩, (oP 22 (.iaddr 1 (.tmp 18) (.tmp 19))), ⟨none, (.store 1 (.tmp 22) (.tmp 21)), none⟩]) .skip))))
 a30_c0)))
def a30 : AFunc := ⟨1, [(.tmp 2)], (.seq (.region [⟨(some 2), (.mov (.const (.c (.str [])))), none⟩])
 (.seq (.region [(mV 6 0), (oP 7 (.toBytes (.tmp 6))), (mV 3 7)])
 (.seq (.seq (.region [(mV 8 3), (oP 9 (.len (.tmp 8))), ⟨(some 10), (.mov (kI 0)), none⟩])
 (.block 0 (.loop a30_c1)))
 (.seq (.region [(mV 24 3), (oP 25 (.ofBytes (.tmp 24))), (mV 2 25)])
 .ret))))⟩
set_option maxRecDepth 100000 in
theorem c30 : compFunc Tryz.prog 30 = some a30 := by kernel_rfl
def r4_lower_post (r : (List UInt8)) : AV → Heap → Nat → Prop := fun v h' n' => v = (S r) ∧ (h' = (fun _ => none)) ∧ n' = 0
noncomputable def r4_lower_j3 (v9 : Int) (v10 : Int) (self : (List Int) → Int → Int → Option (List UInt8)) (K0_ : (List Int) → Option (List UInt8)) (b_2 : (List Int)) : Option (List UInt8) :=
 self b_2 v9 (wi (v10 + 1))
theorem r4_lower_j3_ok {mL : Int} {Q : AExit → St → Prop} {v9 : Int} {v10 : Int} {self : (List Int) → Int → Int → Option (List UInt8)} {K0_ : (List Int) → Option (List UInt8)} {b_2 : (List Int)} {zb_2 : Bool} (hzb_2 : zb_2 = true → b_2 = []) {o : (List UInt8)} (h : r4_lower_j3 v9 v10 self K0_ b_2 = some o)
  (hself : ∀ (b_ : (List Int)) (v9 : Int) (v10 : Int) (zb : Bool) (_ : zb = true → b_ = []), self b_ v9 v10 = some o → ∀ s, Weak 0 s ⟨(upd (upd (upd (upd (fun _ => none) 3 (some (lstV zb 0 1 b_.length))) 8 (some (lstV zb 0 1 b_.length))) 9 (some (I v9))) 10 (some (I v10))), (upd (fun _ => none) 0 (lstB zb 1 (b_.map (eK .u8)))), 1⟩ → (Q) .normal s)
  (hK0 : ∀ (b_1 : (List Int)) (zb_1 : Bool) (_ : zb_1 = true → b_1 = []), K0_ b_1 = some o → ∀ s, Weak 0 s ⟨(upd (fun _ => none) 3 (some (lstV zb_1 0 1 b_1.length))), (upd (fun _ => none) 0 (lstB zb_1 1 (b_1.map (eK .u8)))), 1⟩ → Q (.exit 0) s)
  (hr : ∀ s, Ends a30.results 0 (r4_lower_post o) .ret s → Q .ret s) :
  Sv Tryz.prog (GG mL) 0 a30_c0 Q ⟨(upd (upd (upd (upd (fun _ => none) 3 (some (lstV zb_2 0 1 b_2.length))) 8 (some (lstV zb_2 0 1 b_2.length))) 9 (some (I v9))) 10 (some (I v10))), (upd (fun _ => none) 0 (lstB zb_2 1 (b_2.map (eK .u8)))), 1⟩ := by
 unfold r4_lower_j3 at h
 refine Sv.region ?_
 refine un (a1 (v := (I (wi (v10 + 1)))) rfl ?_)
 refine un (a1 rfl ?_)
 refine dnil ?_
 exact hself b_2 v9 (wi (v10 + 1)) zb_2 hzb_2 h _ (weak_canon [0] rfl (by decide) (by decide) nlz (.cons rfl (avAs_free rfl) (.cons rfl (avAs_free rfl) (.cons rfl (.c (lstC_ren rfl (by decide))) (.cons rfl (.c (lstC_ren rfl (by decide))) .nil)))) (.row (by decide) rfl (fr_map fun _ => rfl) .nil))
noncomputable def r4_lower_l0 (K0_ : (List Int) → Option (List UInt8)) : Nat → (List Int) → Int → Int → Option (List UInt8)
 | 0, _, _, _ => none
 | k + 1, b_, v9, v10 =>
  if decide (v10 < v9) then
   (at? b_ v10).bind fun x_ =>
   if (r4_Between (wr .i64 x_) 65 90) then
    (at? b_ v10).bind fun x_1 =>
    r4_lower_j3 v9 v10 (r4_lower_l0 K0_ k) K0_ (b_.set v10.toNat (wr .u8 (x_ + 32)))
   else
    r4_lower_j3 v9 v10 (r4_lower_l0 K0_ k) K0_ b_
  else
   K0_ b_
theorem r4_lower_l0_ok {mL : Int} {Q : AExit → St → Prop} {K0_ : (List Int) → Option (List UInt8)} {k : Nat} {b_ : (List Int)} {v9 : Int} {v10 : Int} {zb : Bool} (hzb : zb = true → b_ = []) {o : (List UInt8)} (h : r4_lower_l0 K0_ k b_ v9 v10 = some o)
  (hK0 : ∀ (b_1 : (List Int)) (zb_1 : Bool) (_ : zb_1 = true → b_1 = []), K0_ b_1 = some o → ∀ s, Weak 0 s ⟨(upd (fun _ => none) 3 (some (lstV zb_1 0 1 b_1.length))), (upd (fun _ => none) 0 (lstB zb_1 1 (b_1.map (eK .u8)))), 1⟩ → Q (.exit 0) s)
  (hr : ∀ s, Ends a30.results 0 (r4_lower_post o) .ret s → Q .ret s) :
  Sv Tryz.prog (GG mL) 0 (.loop a30_c1) Q ⟨(upd (upd (upd (upd (fun _ => none) 3 (some (lstV zb 0 1 b_.length))) 8 (some (lstV zb 0 1 b_.length))) 9 (some (I v9))) 10 (some (I v10))), (upd (fun _ => none) 0 (lstB zb 1 (b_.map (eK .u8)))), 1⟩ := by
 refine Sv.loop (I := fun k s => ∃ (b_ : (List Int)), ∃ (v9 : Int), ∃ (v10 : Int), ∃ (zb : Bool), (zb = true → b_ = []) ∧ r4_lower_l0 K0_ k b_ v9 v10 = some o ∧ s = ⟨(upd (upd (upd (upd (fun _ => none) 3 (some (lstV zb 0 1 b_.length))) 8 (some (lstV zb 0 1 b_.length))) 9 (some (I v9))) 10 (some (I v10))), (upd (fun _ => none) 0 (lstB zb 1 (b_.map (eK .u8)))), 1⟩) (fun k s hI => ?_) ⟨b_, v9, v10, zb, hzb, h, rfl⟩
 clear h
 clear hzb zb v10 v9 b_
 obtain ⟨b_, v9, v10, zb, hzb, h, rfl⟩ := hI
 cases k with
 | zero => cases h
 | succ k =>
 rw [r4_lower_l0] at h
 have hself : ∀ (b_ : (List Int)) (v9 : Int) (v10 : Int) (zb : Bool) (_ : zb = true → b_ = []), (r4_lower_l0 K0_ k) b_ v9 v10 = some o → ∀ s, Weak 0 s ⟨(upd (upd (upd (upd (fun _ => none) 3 (some (lstV zb 0 1 b_.length))) 8 (some (lstV zb 0 1 b_.length))) 9 (some (I v9))) 10 (some (I v10))), (upd (fun _ => none) 0 (lstB zb 1 (b_.map (eK .u8)))), 1⟩ → (AThen (fun s' => ∃ s'' k', Weak 0 s' s'' ∧ k' < k + 1 ∧ (fun k s => ∃ (b_ : (List Int)), ∃ (v9 : Int), ∃ (v10 : Int), ∃ (zb : Bool), (zb = true → b_ = []) ∧ r4_lower_l0 K0_ k b_ v9 v10 = some o ∧ s = ⟨(upd (upd (upd (upd (fun _ => none) 3 (some (lstV zb 0 1 b_.length))) 8 (some (lstV zb 0 1 b_.length))) 9 (some (I v9))) 10 (some (I v10))), (upd (fun _ => none) 0 (lstB zb 1 (b_.map (eK .u8)))), 1⟩) k' s'') Q) .normal s := fun b_ v9 v10 zb hzb h s hw => ⟨_, k, hw, Nat.lt_succ_self k, b_, v9, v10, zb, hzb, h, rfl⟩
 refine Sv.seq ?_
 refine Sv.region ?_
 refine un (a1 (v := (B (decide (v10 < v9)))) rfl ?_)
 refine dnil ?_
 refine Sv.seq ?_
 refine Sv.cond (b := decide (v10 < v9)) rfl (fun hc1 => ?_) (fun hc1 => ?_)
 ·replace h := ifT hc1 h
  refine Sv.skip ?_
  refine Sv.seq ?_
  refine Sv.block ?_
  refine Sv.seq ?_
  refine Sv.region ?_
  refine un (a1 rfl ?_)
  obtain ⟨x_, hx1, h⟩ := bnd h
  refine un (a1 (v := (.c (.ref 0 1 v10.toNat 0))) (s_iaddrL rfl rfl hzb hx1) ?_)
  refine un (a1 (v := (.c (.val (.int .u8 x_)))) (s_loadL (z := zb) (e := (eK .u8)) rfl rfl hzb hx1 rfl rfl) ?_)
  refine un (a1 rfl ?_)
  refine un (a1 rfl ?_)
  refine dnil ?_
  refine Sv.seq ?_
  refine Sv.region ?_
  refine un (a1 rfl ?_)
  refine un (a1 (v := (I (wr .i64 x_))) rfl ?_)
  refine un (ac_pure (r4_Between_ok (mL := mL) (wr .i64 x_) 65 90) rfl rfl rfl ?_)
  refine dnil ?_
  refine Sv.cond (b := (r4_Between (wr .i64 x_) 65 90)) rfl (fun hc2 => ?_) (fun hc2 => ?_)
  ·replace h := ifT hc2 h
   refine Sv.region ?_
   refine un (a1 rfl ?_)
   refine un (a1 rfl ?_)
   refine un (a1 rfl ?_)
   refine un (a1 (v := (.c (.val (.int .u8 (wr .u8 (x_ + 32)))))) rfl ?_)
   obtain ⟨x_1, hx2, h⟩ := bnd h
   refine un (a1 (v := (.c (.ref 0 1 v10.toNat 0))) (s_iaddrL rfl rfl hzb hx2) ?_)
   refine un (a2n (h' := upd _ 0 (lstB zb 1 ((b_.set v10.toNat (wr .u8 (x_ + 32))).map (eK .u8)))) (n' := 1) rfl (s_storeL (e := (eK .u8)) (q' := (wr .u8 (x_ + 32))) rfl rfl hzb hx2 rfl rfl rfl (Nat.le_of_ble_eq_true rfl) rfl) (fun h => by cases h) ?_)
   try rw [len_set b_ v10.toNat (wr .u8 (x_ + 32))]
   refine dnil ?_
   exact Sv.weak (weak_canon [0] rfl (by decide) (by decide) nlz (.cons rfl (avAs_free rfl) (.cons rfl (avAs_free rfl) (.cons rfl (.c (lstC_ren rfl (by decide))) (.cons rfl (.c (lstC_ren rfl (by decide))) .nil)))) (.row (by decide) rfl (fr_map fun _ => rfl) .nil)) (r4_lower_j3_ok (hz_len hzb (len_set b_ v10.toNat (wr .u8 (x_ + 32)))) h hself hK0 hr)
  ·replace h := ifF hc2 h
   refine Sv.skip ?_
   exact Sv.weak (weak_canon [0] rfl (by decide) (by decide) nlz (.cons rfl (avAs_free rfl) (.cons rfl (avAs_free rfl) (.cons rfl (.c (lstC_ren rfl (by decide))) (.cons rfl (.c (lstC_ren rfl (by decide))) .nil)))) (.row (by decide) rfl (fr_map fun _ => rfl) .nil)) (r4_lower_j3_ok hzb h hself hK0 hr)
 ·replace h := ifF hc1 h
  refine Sv.exit ?_
  exact hK0 b_ zb hzb h _ (weak_canon [0] rfl (by decide) (by decide) nlz (.cons rfl (.c (lstC_ren rfl (by decide))) .nil) (.row (by decide) rfl (fr_map fun _ => rfl) .nil))
/-- clerestory/clerestoryref4.lower -/
noncomputable def r4_lower (s_ : (List UInt8)) : Option (List UInt8) :=
 lim fun kk => r4_lower_l0 (fun (b_1 : (List Int)) => 
   some (byts b_1)) kk (ints s_) ((ints s_).length : Int) 0
theorem r4_lower_ok {mL : Int} {s_ : (List UInt8)} {r : (List UInt8)} (h : r4_lower s_ = some r) : CPure Tryz.prog (GG mL) 30 [(S s_)] (S r) := by
 refine acalls_of_sv hmix c30 (R := r4_lower_post r) ?_
 unfold r4_lower at h
 refine Sv.seq ?_
 refine Sv.region ?_
 refine un (a1 rfl ?_)
 refine dnil ?_
 refine Sv.seq ?_
 refine Sv.region ?_
 refine un (a1 rfl ?_)
 refine un (a2v (v := (lstV false 0 1 (ints s_).length)) (h' := upd _ 0 (lstB false 1 ((ints s_).map (eK .u8)))) (n' := 1) rfl (s_toBytes rfl) (fun h => by cases h) ?_)
 refine un (a1 rfl ?_)
 refine dnil ?_
 refine Sv.seq ?_
 refine Sv.seq ?_
 refine Sv.region ?_
 refine un (a1 rfl ?_)
 refine un (a1 (v := (I ((ints s_).length : Int))) (s_lenL rfl (len_nil_of (fun h => by cases h))) ?_)
 refine un (a1 rfl ?_)
 refine dnil ?_
 refine Sv.block ?_
 obtain ⟨kk, h⟩ := lim_some h
 refine Sv.weak (weak_canon [0] rfl (by decide) (by decide) nlz (.cons rfl (avAs_free rfl) (.cons rfl (avAs_free rfl) (.cons rfl (.c (lstC_ren rfl (by decide))) (.cons rfl (.c (lstC_ren rfl (by decide))) .nil)))) (.row (by decide) rfl (fr_map fun _ => rfl) .nil)) (r4_lower_l0_ok (fun h => by cases h) h ?_ (fun s hs => hs))
 ·intro b_1 zb_1 hzb_1 h _ hw1
  refine Sv.weak hw1 ?_
  refine Sv.seq ?_
  refine Sv.region ?_
  refine un (a1 rfl ?_)
  refine un (a1 (v := (S (byts b_1))) (s_ofBytes (xs := b_1) rfl (slc_lst rfl (List.length_map _).symm (map_nil_of hzb_1))) ?_)
  refine un (a1 rfl ?_)
  refine dnil ?_
  refine Sv.ret ?_
  replace h := Option.some.inj h
  subst h
  exact ⟨_, .refl _, _, rfl, ⟨upd (fun _ => none) 0 (some (S (byts b_1))), (fun _ => none), 0⟩, (S (byts b_1)), weak_canon [] rfl List.nodup_nil (Nat.le_refl _) nlz (.cons rfl (avAs_free rfl) .nil) .nil, rfl, rfl, rfl, rfl⟩
def a27_c0 : ACode := (.seq (.region [(oP 20 (.bin .lss (.tmp 19) (.tmp 18)))])
 (.seq (.cond (.tmp 20) .skip (.exit 0))
 (.seq (.block 1 (.seq (.region [(mV 21 19), (oP 22 (.iaddr 1 (.tmp 17) (.tmp 19))), (oP 23 (.load false 1 (.tmp 22))), (mV 6 21), (mV 7 23)])
 (.seq (.region [(mV 24 7), (oP 25 (.conv .i64 (.tmp 24))), ⟨(some 26), (.call 32 [(.tmp 25), (kI 97), (kI 122)]), none⟩, (oP 27 (.un .not (.tmp 26))), (mV 28 27), ⟨(some 29), (.mov (.tmp 6)), (some (28, true))⟩, ⟨(some 30), (.bin .eql (.tmp 29) (kI 0)), (some (28, true))⟩, ⟨(some 31), (.mov (.tmp 30)), (some (28, true))⟩, ⟨(some 32), (.mov (.tmp 7)), (some (31, false))⟩, ⟨(some 33), (.conv .i64 (.tmp 32)), (some (31, false))⟩, ⟨(some 34), (.call 32 [(.tmp 33), (kI 48), (kI 57)]), (some (31, false))⟩, ⟨(some 35), (.un .not (.tmp 34)), (some (31, false))⟩, ⟨(some 36), (.mov (.tmp 35)), (some (31, false))⟩, ⟨(some 37), (.mov (.tmp 7)), (some (36, true))⟩, ⟨(some 38), (.bin .neq (.tmp 37) (.const (.c (.val (.int .u8 43))))), (some (36, true))⟩, ⟨(some 39), (.pick (.tmp 36) (.tmp 38) (.const (.c (.val (.bool false))))), (some (31, false))⟩, ⟨(some 40), (.mov (.tmp 39)), (some (31, false))⟩, ⟨(some 41), (.mov (.tmp 7)), (some (40, true))⟩, ⟨(some 42), (.bin .neq (.tmp 41) (.const (.c (.val (.int .u8 45))))), (some (40, true))⟩, ⟨(some 43), (.pick (.tmp 40) (.tmp 42) (.const (.c (.val (.bool false))))), (some (31, false))⟩, ⟨(some 44), (.mov (.tmp 43)), (some (31, false))⟩, ⟨(some 45), (.mov (.tmp 7)), (some (44, true))⟩, ⟨(some 46), (.bin .neq (.tmp 45) (.const (.c (.val (.int .u8 46))))), (some (44, true))⟩, ⟨(some 47), (.pick (.tmp 44) (.tmp 46) (.const (.c (.val (.bool false))))), (some (31, false))⟩, ⟨(some 48), (.pick (.tmp 31) (.const (.c (.val (.bool true)))) (.tmp 47)), (some (28, true))⟩, ⟨(some 49), (.pick (.tmp 28) (.tmp 48) (.const (.c (.val (.bool false))))), none⟩])
 (.cond (.tmp 49) (.seq (.region [⟨(some 2), (.mov (.const (.c (.str [])))), none⟩, ⟨(some 3), (.mov (.const (.c (.val (.bool false))))), none⟩])
 .ret) .skip))))
 (.region [⟨(some 50), (.bin .add (.tmp 19) (kI 1)), none⟩, (mV 19 50)]))))
def a27 : AFunc := ⟨1, [(.tmp 2), (.tmp 3)], (.seq (.region [⟨(some 2), (.mov (.const (.c (.str [])))), none⟩, ⟨(some 3), (.mov (.const (.c (.val (.bool false))))), none⟩])
 (.seq (.region [(mV 8 0), ⟨(some 9), (.call 58 [(.tmp 8), (.const (.c (.str [58])))]), none⟩, (mV 4 9)])
 (.seq (.seq (.region [(mV 10 4), ⟨(some 11), (.bin .lss (.tmp 10) (kI 1)), none⟩])
 (.cond (.tmp 11) (.seq (.region [⟨(some 2), (.mov (.const (.c (.str [])))), none⟩, ⟨(some 3), (.mov (.const (.c (.val (.bool false))))), none⟩])
 .ret) .skip))
 (.seq (.region [(mV 12 0), (mV 13 4), (oP 14 (.slStr (.tmp 12) none (some (.tmp 13)))), (oP 15 (.call 30 [(.tmp 14)])), (mV 5 15)])
 (.seq (.seq (.region [(mV 16 5), (oP 17 (.toBytes (.tmp 16))), (oP 18 (.len (.tmp 17))), ⟨(some 19), (.mov (kI 0)), none⟩])
 (.block 0 (.loop a27_c0)))
 (.seq (.region [(mV 51 5), (mV 2 51), ⟨(some 3), (.mov (.const (.c (.val (.bool true))))), none⟩])
 .ret))))))⟩
set_option maxRecDepth 100000 in
theorem c27 : compFunc Tryz.prog 27 = some a27 := by kernel_rfl
def r4_SchemeOf_post (r : ((List UInt8) × Bool)) : AV → Heap → Nat → Prop := fun v h' n' => v = (.tup [(S r.1), (B r.2)]) ∧ (h' = (fun _ => none)) ∧ n' = 0
noncomputable def r4_SchemeOf_l0 (r_2 : (List UInt8)) (K0_ : Unit → Option ((List UInt8) × Bool)) : Nat → Int → Option ((List UInt8) × Bool)
 | 0, _ => none
 | k + 1, v19 =>
  if decide (v19 < ((ints r_2).length : Int)) then
   (at? (ints r_2) v19).bind fun x_ =>
   if ((!(r4_Between (wr .i64 x_) 97 122)) && ((decide (v19 = 0)) || ((((!(r4_Between (wr .i64 x_) 48 57)) && (!decide (x_ = 43))) && (!decide (x_ = 45))) && (!decide (x_ = 46))))) then
    some ([], false)
   else
    (r4_SchemeOf_l0 r_2 K0_ k) (wi (v19 + 1))
  else
   K0_ ()
theorem r4_SchemeOf_l0_ok {mL : Int} {Q : AExit → St → Prop} {r_2 : (List UInt8)} {K0_ : Unit → Option ((List UInt8) × Bool)} {k : Nat} {v19 : Int} {o : ((List UInt8) × Bool)} (h : r4_SchemeOf_l0 r_2 K0_ k v19 = some o)
  (hK0 : ∀ (_ : Unit), K0_ () = some o → ∀ s, Weak 0 s ⟨(upd (fun _ => none) 5 (some (S r_2))), (fun _ => none), 0⟩ → Q (.exit 0) s)
  (hr : ∀ s, Ends a27.results 0 (r4_SchemeOf_post o) .ret s → Q .ret s) :
  Sv Tryz.prog (GG mL) 0 (.loop a27_c0) Q ⟨(upd (upd (upd (upd (fun _ => none) 5 (some (S r_2))) 17 (some (lstV false 0 1 (ints r_2).length))) 18 (some (I ((ints r_2).length : Int)))) 19 (some (I v19))), (upd (fun _ => none) 0 (lstB false 1 ((ints r_2).map (eK .u8)))), 1⟩ := by
 refine Sv.loop (I := fun k s => ∃ (v19 : Int), r4_SchemeOf_l0 r_2 K0_ k v19 = some o ∧ s = ⟨(upd (upd (upd (upd (fun _ => none) 5 (some (S r_2))) 17 (some (lstV false 0 1 (ints r_2).length))) 18 (some (I ((ints r_2).length : Int)))) 19 (some (I v19))), (upd (fun _ => none) 0 (lstB false 1 ((ints r_2).map (eK .u8)))), 1⟩) (fun k s hI => ?_) ⟨v19, h, rfl⟩
 clear h
 clear v19
 obtain ⟨v19, h, rfl⟩ := hI
 cases k with
 | zero => cases h
 | succ k =>
 rw [r4_SchemeOf_l0] at h
 have hself : ∀ (v19 : Int), (r4_SchemeOf_l0 r_2 K0_ k) v19 = some o → ∀ s, Weak 0 s ⟨(upd (upd (upd (upd (fun _ => none) 5 (some (S r_2))) 17 (some (lstV false 0 1 (ints r_2).length))) 18 (some (I ((ints r_2).length : Int)))) 19 (some (I v19))), (upd (fun _ => none) 0 (lstB false 1 ((ints r_2).map (eK .u8)))), 1⟩ → (AThen (fun s' => ∃ s'' k', Weak 0 s' s'' ∧ k' < k + 1 ∧ (fun k s => ∃ (v19 : Int), r4_SchemeOf_l0 r_2 K0_ k v19 = some o ∧ s = ⟨(upd (upd (upd (upd (fun _ => none) 5 (some (S r_2))) 17 (some (lstV false 0 1 (ints r_2).length))) 18 (some (I ((ints r_2).length : Int)))) 19 (some (I v19))), (upd (fun _ => none) 0 (lstB false 1 ((ints r_2).map (eK .u8)))), 1⟩) k' s'') Q) .normal s := fun v19 h s hw => ⟨_, k, hw, Nat.lt_succ_self k, v19, h, rfl⟩
 refine Sv.seq ?_
 refine Sv.region ?_
 refine un (a1 (v := (B (decide (v19 < ((ints r_2).length : Int))))) rfl ?_)
 refine dnil ?_
 refine Sv.seq ?_
 refine Sv.cond (b := decide (v19 < ((ints r_2).length : Int))) rfl (fun hc2 => ?_) (fun hc2 => ?_)
 ·replace h := ifT hc2 h
  refine Sv.skip ?_
  refine Sv.seq ?_
  refine Sv.block ?_
  refine Sv.seq ?_
  refine Sv.region ?_
  refine un (a1 rfl ?_)
  obtain ⟨x_, hx2, h⟩ := bnd h
  refine un (a1 (v := (.c (.ref 0 1 v19.toNat 0))) (s_iaddrL rfl rfl (fun h => by cases h) hx2) ?_)
  refine un (a1 (v := (.c (.val (.int .u8 x_)))) (s_loadL (z := false) (e := (eK .u8)) rfl rfl (fun h => by cases h) hx2 rfl rfl) ?_)
  refine un (a1 rfl ?_)
  refine un (a1 rfl ?_)
  refine dnil ?_
  refine Sv.seq ?_
  refine Sv.region ?_
  refine un (a1 rfl ?_)
  refine un (a1 (v := (I (wr .i64 x_))) rfl ?_)
  refine un (ac_pure (r4_Between_ok (mL := mL) (wr .i64 x_) 97 122) rfl rfl rfl ?_)
  refine un (a1 (v := (B (!(r4_Between (wr .i64 x_) 97 122)))) rfl ?_)
  refine un (a1 rfl ?_)
  refine gjoin 21 (d := 49) (v := (B ((!(r4_Between (wr .i64 x_) 97 122)) && ((decide (v19 = 0)) || ((((!(r4_Between (wr .i64 x_) 48 57)) && (!decide (x_ = 43))) && (!decide (x_ = 45))) && (!decide (x_ = 46))))))) (fun X hX => ?_) ?_
  ·refine split2 (fun hc7 => ?_) (fun hc7 => ?_)
   ·refine gt rfl (a1 rfl ?_)
    refine gt rfl (a1 (v := (B (decide (v19 = 0)))) rfl ?_)
    refine gt rfl (a1 rfl ?_)
    refine gjoin 17 (d := 48) (v := (B ((decide (v19 = 0)) || ((((!(r4_Between (wr .i64 x_) 48 57)) && (!decide (x_ = 43))) && (!decide (x_ = 45))) && (!decide (x_ = 46)))))) (fun X hX => ?_) ?_
    ·refine split2 (fun hc6 => ?_) (fun hc6 => ?_)
     ·refine gs rfl rfl ?_
      refine gs rfl rfl ?_
      refine gs rfl rfl ?_
      refine gs rfl rfl ?_
      refine gs rfl rfl ?_
      refine gu rfl ?_
      refine gu rfl ?_
      refine gs rfl rfl ?_
      refine gs rfl rfl ?_
      refine gu rfl ?_
      refine gu rfl ?_
      refine gs rfl rfl ?_
      refine gs rfl rfl ?_
      refine gu rfl ?_
      refine gu rfl ?_
      refine gs rfl rfl ?_
      refine gt rfl (a1 (v := (B true)) rfl ?_)
      refine dnil ?_
      exact hX _ (.putEq (by rw [hc6]; rfl) (.skip _ _ (.skip _ _ (.skip _ _ (.skip _ _ (.skip _ _ (.skip _ _ (.skip _ _ (.skip _ _ (.skip _ _ (.skip _ _ (.skip _ _ (.skip _ _ (.skip _ _ (.skip _ _ (.skip _ _ (.skip _ _ (.putEq (by rw [hc6]) (.refl _)) rfl) rfl) rfl) rfl) rfl) rfl) rfl) rfl) rfl) rfl) rfl) rfl) rfl) rfl) rfl) rfl))
     ·refine gt rfl (a1 rfl ?_)
      refine gt rfl (a1 (v := (I (wr .i64 x_))) rfl ?_)
      refine gt rfl (ac_pure (r4_Between_ok (mL := mL) (wr .i64 x_) 48 57) rfl rfl rfl ?_)
      refine gt rfl (a1 (v := (B (!(r4_Between (wr .i64 x_) 48 57)))) rfl ?_)
      refine gt rfl (a1 rfl ?_)
      refine gjoin 3 (d := 39) (v := (B ((!(r4_Between (wr .i64 x_) 48 57)) && (!decide (x_ = 43))))) (fun X hX => ?_) ?_
      ·refine split2 (fun hc3 => ?_) (fun hc3 => ?_)
       ·refine gt rfl (a1 rfl ?_)
        refine gt rfl (a1 (v := (B (!decide (x_ = 43)))) rfl ?_)
        refine gt rfl (a1 (v := (B (!decide (x_ = 43)))) rfl ?_)
        refine dnil ?_
        exact hX _ (.putEq (by rw [hc3]; rfl) (.skip _ _ (.skip _ _ (.putEq (by rw [hc3]) (.refl _)) rfl) rfl))
       ·refine gs rfl rfl ?_
        refine gs rfl rfl ?_
        refine gt rfl (a1 (v := (B false)) rfl ?_)
        refine dnil ?_
        exact hX _ (.putEq (by rw [hc3]; rfl) (.skip _ _ (.skip _ _ (.putEq (by rw [hc3]) (.refl _)) rfl) rfl))
      refine gt rfl (a1 rfl ?_)
      refine gjoin 3 (d := 43) (v := (B (((!(r4_Between (wr .i64 x_) 48 57)) && (!decide (x_ = 43))) && (!decide (x_ = 45))))) (fun X hX => ?_) ?_
      ·refine split2 (fun hc4 => ?_) (fun hc4 => ?_)
       ·refine gt rfl (a1 rfl ?_)
        refine gt rfl (a1 (v := (B (!decide (x_ = 45)))) rfl ?_)
        refine gt rfl (a1 (v := (B (!decide (x_ = 45)))) rfl ?_)
        refine dnil ?_
        exact hX _ (.putEq (by rw [hc4]; rfl) (.skip _ _ (.skip _ _ (.putEq (by rw [hc4]) (.refl _)) rfl) rfl))
       ·refine gs rfl rfl ?_
        refine gs rfl rfl ?_
        refine gt rfl (a1 (v := (B false)) rfl ?_)
        refine dnil ?_
        exact hX _ (.putEq (by rw [hc4]; rfl) (.skip _ _ (.skip _ _ (.putEq (by rw [hc4]) (.refl _)) rfl) rfl))
      refine gt rfl (a1 rfl ?_)
      refine gjoin 3 (d := 47) (v := (B ((((!(r4_Between (wr .i64 x_) 48 57)) && (!decide (x_ = 43))) && (!decide (x_ = 45))) && (!decide (x_ = 46))))) (fun X hX => ?_) ?_
      ·refine split2 (fun hc5 => ?_) (fun hc5 => ?_)
       ·refine gt rfl (a1 rfl ?_)
        refine gt rfl (a1 (v := (B (!decide (x_ = 46)))) rfl ?_)
        refine gt rfl (a1 (v := (B (!decide (x_ = 46)))) rfl ?_)
        refine dnil ?_
        exact hX _ (.putEq (by rw [hc5]; rfl) (.skip _ _ (.skip _ _ (.putEq (by rw [hc5]) (.refl _)) rfl) rfl))
       ·refine gs rfl rfl ?_
        refine gs rfl rfl ?_
        refine gt rfl (a1 (v := (B false)) rfl ?_)
        refine dnil ?_
        exact hX _ (.putEq (by rw [hc5]; rfl) (.skip _ _ (.skip _ _ (.putEq (by rw [hc5]) (.refl _)) rfl) rfl))
      refine gt rfl (a1 (v := (B ((((!(r4_Between (wr .i64 x_) 48 57)) && (!decide (x_ = 43))) && (!decide (x_ = 45))) && (!decide (x_ = 46))))) rfl ?_)
      refine dnil ?_
      exact hX _ (.putEq (by rw [hc6]; rfl) (.skip _ _ (.skip _ _ (.skip _ _ (.skip _ _ (.skip _ _ (.skip _ _ (.skip _ _ (.skip _ _ (.skip _ _ (.skip _ _ (.putEq (by rw [hc6]) (.refl _)) rfl) rfl) rfl) rfl) rfl) rfl) rfl) rfl) rfl) rfl))
    refine un (a1 (v := (B ((decide (v19 = 0)) || ((((!(r4_Between (wr .i64 x_) 48 57)) && (!decide (x_ = 43))) && (!decide (x_ = 45))) && (!decide (x_ = 46)))))) rfl ?_)
    refine dnil ?_
    exact hX _ (.putEq (by rw [hc7]; rfl) (.skip _ _ (.skip _ _ (.skip _ _ (.skip _ _ (.putEq (by rw [hc7]) (.refl _)) rfl) rfl) rfl) rfl))
   ·refine gs rfl rfl ?_
    refine gs rfl rfl ?_
    refine gs rfl rfl ?_
    refine gu rfl ?_
    refine gu rfl ?_
    refine gu rfl ?_
    refine gu rfl ?_
    refine gu rfl ?_
    refine gu rfl ?_
    refine gu rfl ?_
    refine gu rfl ?_
    refine gu rfl ?_
    refine gu rfl ?_
    refine gu rfl ?_
    refine gu rfl ?_
    refine gu rfl ?_
    refine gu rfl ?_
    refine gu rfl ?_
    refine gu rfl ?_
    refine gs rfl rfl ?_
    refine un (a1 (v := (B false)) rfl ?_)
    refine dnil ?_
    exact hX _ (.putEq (by rw [hc7]; rfl) (.skip _ _ (.skip _ _ (.skip _ _ (.skip _ _ (.skip _ _ (.skip _ _ (.skip _ _ (.skip _ _ (.skip _ _ (.skip _ _ (.skip _ _ (.skip _ _ (.skip _ _ (.skip _ _ (.skip _ _ (.skip _ _ (.skip _ _ (.skip _ _ (.skip _ _ (.skip _ _ (.putEq (by rw [hc7]) (.refl _)) rfl) rfl) rfl) rfl) rfl) rfl) rfl) rfl) rfl) rfl) rfl) rfl) rfl) rfl) rfl) rfl) rfl) rfl) rfl) rfl))
  refine dnil ?_
  refine Sv.cond (b := ((!(r4_Between (wr .i64 x_) 97 122)) && ((decide (v19 = 0)) || ((((!(r4_Between (wr .i64 x_) 48 57)) && (!decide (x_ = 43))) && (!decide (x_ = 45))) && (!decide (x_ = 46)))))) rfl (fun hc8 => ?_) (fun hc8 => ?_)
  ·replace h := ifT hc8 h
   refine Sv.seq ?_
   refine Sv.region ?_
   refine un (a1 rfl ?_)
   refine un (a1 rfl ?_)
   refine dnil ?_
   refine Sv.ret ?_
   replace h := Option.some.inj h
   subst h
   exact hr _ ⟨_, .refl _, _, rfl, ⟨upd (fun _ => none) 0 (some (.tup [(S []), (B false)])), (fun _ => none), 0⟩, (.tup [(S []), (B false)]), weak_canon [] rfl List.nodup_nil (Nat.le_refl _) nlz (.cons rfl (avAs_tup (.cons (avAs_free rfl) (.cons (avAs_free rfl) .nil))) .nil) .nil, rfl, rfl, rfl, rfl⟩
  ·replace h := ifF hc8 h
   refine Sv.skip ?_
   refine Sv.region ?_
   refine un (a1 (v := (I (wi (v19 + 1)))) rfl ?_)
   refine un (a1 rfl ?_)
   refine dnil ?_
   exact hself (wi (v19 + 1)) h _ (weak_canon [0] rfl (by decide) (by decide) nlz (.cons rfl (avAs_free rfl) (.cons rfl (avAs_free rfl) (.cons rfl (.c (lstC_ren rfl (by decide))) (.cons rfl (avAs_free rfl) .nil)))) (.row (by decide) rfl (fr_map fun _ => rfl) .nil))
 ·replace h := ifF hc2 h
  refine Sv.exit ?_
  exact hK0 () h _ (weak_canon [] rfl (by decide) (by decide) nlz (.cons rfl (avAs_free rfl) .nil) .nil)
/-- clerestory/clerestoryref4.SchemeOf -/
noncomputable def r4_SchemeOf (s_ : (List UInt8)) : Option ((List UInt8) × Bool) :=
 (strings_Index s_ [58]).bind fun r_ =>
 if decide (r_ < 1) then
  some ([], false)
 else
  (sub? s_ 0 r_).bind fun r_1 =>
  (r4_lower r_1).bind fun r_2 =>
  lim fun kk => r4_SchemeOf_l0 r_2 (fun (_ : Unit) => 
    some (r_2, true)) kk 0
theorem r4_SchemeOf_ok {mL : Int} {s_ : (List UInt8)} {r : ((List UInt8) × Bool)} (h : r4_SchemeOf s_ = some r) : CPure Tryz.prog (GG mL) 27 [(S s_)] (.tup [(S r.1), (B r.2)]) := by
 refine acalls_of_sv hmix c27 (R := r4_SchemeOf_post r) ?_
 unfold r4_SchemeOf at h
 refine Sv.seq ?_
 refine Sv.region ?_
 refine un (a1 rfl ?_)
 refine un (a1 rfl ?_)
 refine dnil ?_
 refine Sv.seq ?_
 refine Sv.region ?_
 refine un (a1 rfl ?_)
 obtain ⟨r_, hr1, h⟩ := bnd h
 refine un (ac_pure (strings_Index_ok hr1) rfl rfl rfl ?_)
 refine un (a1 rfl ?_)
 refine dnil ?_
 refine Sv.seq ?_
 refine Sv.seq ?_
 refine Sv.region ?_
 refine un (a1 rfl ?_)
 refine un (a1 (v := (B (decide (r_ < 1)))) rfl ?_)
 refine dnil ?_
 refine Sv.cond (b := decide (r_ < 1)) rfl (fun hc1 => ?_) (fun hc1 => ?_)
 ·replace h := ifT hc1 h
  refine Sv.seq ?_
  refine Sv.region ?_
  refine un (a1 rfl ?_)
  refine un (a1 rfl ?_)
  refine dnil ?_
  refine Sv.ret ?_
  replace h := Option.some.inj h
  subst h
  exact ⟨_, .refl _, _, rfl, ⟨upd (fun _ => none) 0 (some (.tup [(S []), (B false)])), (fun _ => none), 0⟩, (.tup [(S []), (B false)]), weak_canon [] rfl List.nodup_nil (Nat.le_refl _) nlz (.cons rfl (avAs_tup (.cons (avAs_free rfl) (.cons (avAs_free rfl) .nil))) .nil) .nil, rfl, rfl, rfl, rfl⟩
 ·replace h := ifF hc1 h
  refine Sv.skip ?_
  refine Sv.seq ?_
  refine Sv.region ?_
  refine un (a1 rfl ?_)
  refine un (a1 rfl ?_)
  obtain ⟨r_1, hx1, h⟩ := bnd h
  refine un (a1 (v := (S r_1)) (s_slStr rfl rfl rfl hx1) ?_)
  obtain ⟨r_2, hr2, h⟩ := bnd h
  refine un (ac_pure (r4_lower_ok hr2) rfl rfl rfl ?_)
  refine un (a1 rfl ?_)
  refine dnil ?_
  refine Sv.seq ?_
  refine Sv.seq ?_
  refine Sv.region ?_
  refine un (a1 rfl ?_)
  refine un (a2v (v := (lstV false 0 1 (ints r_2).length)) (h' := upd _ 0 (lstB false 1 ((ints r_2).map (eK .u8)))) (n' := 1) rfl (s_toBytes rfl) (fun h => by cases h) ?_)
  refine un (a1 (v := (I ((ints r_2).length : Int))) (s_lenL rfl (len_nil_of (fun h => by cases h))) ?_)
  refine un (a1 rfl ?_)
  refine dnil ?_
  refine Sv.block ?_
  obtain ⟨kk, h⟩ := lim_some h
  refine Sv.weak (weak_canon [0] rfl (by decide) (by decide) nlz (.cons rfl (avAs_free rfl) (.cons rfl (avAs_free rfl) (.cons rfl (.c (lstC_ren rfl (by decide))) (.cons rfl (avAs_free rfl) .nil)))) (.row (by decide) rfl (fr_map fun _ => rfl) .nil)) (r4_SchemeOf_l0_ok h ?_ (fun s hs => hs))
  ·intro _ h _ hw1
   refine Sv.weak hw1 ?_
   refine Sv.seq ?_
   refine Sv.region ?_
   refine un (a1 rfl ?_)
   refine un (a1 rfl ?_)
   refine un (a1 rfl ?_)
   refine dnil ?_
   refine Sv.ret ?_
   replace h := Option.some.inj h
   subst h
   exact ⟨_, .refl _, _, rfl, ⟨upd (fun _ => none) 0 (some (.tup [(S r_2), (B true)])), (fun _ => none), 0⟩, (.tup [(S r_2), (B true)]), weak_canon [] rfl List.nodup_nil (Nat.le_refl _) nlz (.cons rfl (avAs_tup (.cons (avAs_free rfl) (.cons (avAs_free rfl) .nil))) .nil) .nil, rfl, rfl, rfl, rfl⟩
def a28 : AFunc := ⟨2, [(.tmp 4)], (.seq (.region [⟨(some 4), (.mov (.const (.c (.val (.bool false))))), none⟩])
 (.seq (.region [(mV 5 0), (mV 6 1), (oP 7 (.call 59 [(.tmp 5), (.tmp 6)])), (mV 4 7)])
 .ret))⟩
set_option maxRecDepth 100000 in
theorem c28 : compFunc Tryz.prog 28 = some a28 := by kernel_rfl
def strings_HasPrefix_post (r : Bool) : AV → Heap → Nat → Prop := fun v h' n' => v = (B r) ∧ (h' = (fun _ => none)) ∧ n' = 0
/-- strings.HasPrefix -/
noncomputable def strings_HasPrefix (s_ : (List UInt8)) (prefix_ : (List UInt8)) : Option Bool :=
 (sl_HasPrefix s_ prefix_).bind fun r_ =>
 some r_
theorem strings_HasPrefix_ok {mL : Int} {s_ : (List UInt8)} {prefix_ : (List UInt8)} {r : Bool} (h : strings_HasPrefix s_ prefix_ = some r) : CPure Tryz.prog (GG mL) 28 [(S s_), (S prefix_)] (B r) := by
 refine acalls_of_sv hmix c28 (R := strings_HasPrefix_post r) ?_
 unfold strings_HasPrefix at h
 refine Sv.seq ?_
 refine Sv.region ?_
 refine un (a1 rfl ?_)
 refine dnil ?_
 refine Sv.seq ?_
 refine Sv.region ?_
 refine un (a1 rfl ?_)
 refine un (a1 rfl ?_)
 obtain ⟨r_, hr1, h⟩ := bnd h
 refine un (ac_pure (sl_HasPrefix_ok hr1) rfl rfl rfl ?_)
 refine un (a1 rfl ?_)
 refine dnil ?_
 refine Sv.ret ?_
 replace h := Option.some.inj h
 subst h
 exact ⟨_, .refl _, _, rfl, ⟨upd (fun _ => none) 0 (some (B r_)), (fun _ => none), 0⟩, (B r_), weak_canon [] rfl List.nodup_nil (Nat.le_refl _) nlz (.cons rfl (avAs_free rfl) .nil) .nil, rfl, rfl, rfl, rfl⟩
def a26 : AFunc := ⟨0, [(.cell true 8 0), (.tmp 1)], (.seq (.region [⟨(some 0), (.box (.const (.agg [(.str []), (.str []), (.val (.int .i64 0)), (.ro true 1 []), (.str []), (.val (.bool false)), (.str []), (.val (.bool false))]))), none⟩, ⟨(some 1), (.mov (kI 0)), none⟩])
 (.seq (.region [(oP 2 (.build [(.str []), (.str []), (.val (.int .i64 0)), (.ro true 1 []), (.str []), (.val (.bool false)), (.str []), (.val (.bool false))] [])), ⟨none, (.store 8 (.tmp 0) (.tmp 2)), none⟩, ⟨(some 1), (.mov (kI 3)), none⟩])
 .ret))⟩
set_option maxRecDepth 100000 in
theorem c26 : compFunc Tryz.prog 26 = some a26 := by kernel_rfl
def r4_Addressed_fn1_post (r : (TJUrl × Int)) : AV → Heap → Nat → Prop := fun v h' n' => v = (.tup [(.agg [.str r.1.Scheme, .str r.1.Host, cI r.1.Port, .ro false 1 (r.1.Path.map eStr), .str r.1.Query, cB r.1.Asks, .str r.1.Fragment, cB r.1.Points]), (I r.2)]) ∧ (h' = (fun _ => none)) ∧ n' = 0
/-- clerestory/clerestoryref4.Addressed$1 -/
def r4_Addressed_fn1 : (TJUrl × Int) :=
 ((⟨[], [], 0, [], [], false, [], false⟩ : TJUrl), 3)
theorem r4_Addressed_fn1_ok {mL : Int} : CPure Tryz.prog (GG mL) 26 [] (.tup [(.agg [.str r4_Addressed_fn1.1.Scheme, .str r4_Addressed_fn1.1.Host, cI r4_Addressed_fn1.1.Port, .ro false 1 (r4_Addressed_fn1.1.Path.map eStr), .str r4_Addressed_fn1.1.Query, cB r4_Addressed_fn1.1.Asks, .str r4_Addressed_fn1.1.Fragment, cB r4_Addressed_fn1.1.Points]), (I r4_Addressed_fn1.2)]) := by
 generalize h : r4_Addressed_fn1 = o
 refine acalls_of_sv hmix c26 (R := r4_Addressed_fn1_post o) ?_
 unfold r4_Addressed_fn1 at h
 refine Sv.seq ?_
 refine Sv.region ?_
 refine un (a2v (v := (.c (.ref 0 8 0 0))) (h' := upd _ 0 (some (.cells 8 [[.str [], .str [], cI 0, .ro true 1 [], .str [], cB false, .str [], cB false]]))) (n' := 1) rfl rfl (fun h => by cases h) ?_)
 refine un (a1 rfl ?_)
 refine dnil ?_
 refine Sv.seq ?_
 refine Sv.region ?_
 refine un (a1 (v := (.agg [.str [], .str [], cI 0, .ro true 1 [], .str [], cB false, .str [], cB false])) rfl ?_)
 refine un (a2n (h' := upd _ 0 (some (.cells 8 [[.str [], .str [], cI 0, .ro true 1 [], .str [], cB false, .str [], cB false]]))) (n' := 1) rfl rfl (fun h => by cases h) ?_)
 refine un (a1 rfl ?_)
 refine dnil ?_
 refine Sv.ret ?_
 subst h
 exact ⟨_, .refl _, _, rfl, ⟨upd (fun _ => none) 0 (some (.tup [(.agg [.str [], .str [], cI 0, .ro false 1 (([] : List (List UInt8)).map eStr), .str [], cB false, .str [], cB false]), (I 3)])), (fun _ => none), 0⟩, (.tup [(.agg [.str [], .str [], cI 0, .ro false 1 (([] : List (List UInt8)).map eStr), .str [], cB false, .str [], cB false]), (I 3)]), weak_canon [] rfl List.nodup_nil (Nat.le_refl _) nlz (.cons rfl (avAs_tup (.cons (avAs_agg (.cons (.same rfl) (.cons (.same rfl) (.cons (.same rfl) (.cons .nil (.cons (.same rfl) (.cons (.same rfl) (.cons (.same rfl) (.cons (.same rfl) .nil))))))))) (.cons (avAs_free rfl) .nil))) .nil) .nil, rfl, rfl, rfl, rfl⟩
noncomputable abbrev strings_Contains (s_ : (List UInt8)) (substr_ : (List UInt8)) : Option Bool := contains? s_ substr_
/-- strings.Contains+, by the contract of the shelf -/
theorem strings_Contains_ok {mL : Int} {s_ : (List UInt8)} {substr_ : (List UInt8)} {r : Bool} (h : strings_Contains s_ substr_ = some r) : CPure Tryz.prog (GG mL) 60 [(S s_), (S substr_)] (B r) := contains_ok (m := mL) Tryz.lays144 rfl h
def a29_c0 : ACode := (.cond (.tmp 24) (.seq (.drawn (.fin [((mV 25 0), (0, 0)), ((mV 26 6), (0, 1)), ((oP 27 (.slStr (.tmp 25) none (some (.tmp 26)))), (0, 2)), ((mV 28 0), (0, 3)), ((mV 29 6), (0, 4)), ((oP 30 (.slStr (.tmp 28) (some (.tmp 29)) none)), (0, 5)), ((mV 4 27), (0, 6)), ((mV 5 30), (0, 7))]))
 .ret) .skip)
def a29_c1 : ACode := (.region [⟨(some 31), (.bin .add (.tmp 9) (kI 1)), none⟩, (mV 9 31)])
def a29_c2 : ACode := (.seq (.region [(oP 10 (.bin .lss (.tmp 9) (.tmp 8)))])
 (.seq (.cond (.tmp 10) .skip (.exit 0))
 (.seq (.block 1 (.seq (.region [(mV 11 9), (mV 6 11)])
 (.seq (.region [(mV 12 0), (mV 13 6), (oP 14 (.idxS (.tmp 12) (.tmp 13))), ⟨(some 15), (.bin .lss (.tmp 14) (.const (.c (.val (.int .u8 128))))), none⟩, (mV 16 15), ⟨(some 17), (.mov (.tmp 1)), (some (16, true))⟩, ⟨(some 18), (.mov (.tmp 0)), (some (16, true))⟩, ⟨(some 19), (.mov (.tmp 6)), (some (16, true))⟩, ⟨(some 20), (.mov (.tmp 6)), (some (16, true))⟩, ⟨(some 21), (.bin .add (.tmp 20) (kI 1)), (some (16, true))⟩, ⟨(some 22), (.slStr (.tmp 18) (some (.tmp 19)) (some (.tmp 21))), (some (16, true))⟩, ⟨(some 23), (.call 60 [(.tmp 17), (.tmp 22)]), (some (16, true))⟩, ⟨(some 24), (.pick (.tmp 16) (.tmp 23) (.const (.c (.val (.bool false))))), none⟩])
 a29_c0)))
 a29_c1)))
def a29 : AFunc := ⟨2, [(.tmp 4), (.tmp 5)], (.seq (.region [⟨(some 4), (.mov (.const (.c (.str [])))), none⟩, ⟨(some 5), (.mov (.const (.c (.str [])))), none⟩])
 (.seq (.seq (.region [(mV 7 0), (oP 8 (.lenS (.tmp 7))), ⟨(some 9), (.mov (kI 0)), none⟩])
 (.block 0 (.loop a29_c2)))
 (.seq (.region [(mV 32 0), (mV 4 32), ⟨(some 5), (.mov (.const (.c (.str [])))), none⟩])
 .ret)))⟩
set_option maxRecDepth 100000 in
theorem c29 : compFunc Tryz.prog 29 = some a29 := by kernel_rfl
def r4_parted_post (r : ((List UInt8) × (List UInt8))) : AV → Heap → Nat → Prop := fun v h' n' => v = (.tup [(S r.1), (S r.2)]) ∧ (h' = (fun _ => none)) ∧ n' = 0
abbrev r4_parted_q0 (mL : Int) (Q : AExit → St → Prop) : AExit → St → Prop := AThen (Sv Tryz.prog (GG mL) 0 a29_c1 Q) Q
abbrev r4_parted_q1 (mL : Int) (Q : AExit → St → Prop) : AExit → St → Prop := ABlock 1 (r4_parted_q0 mL Q)
noncomputable def r4_parted_j3 (s_ : (List UInt8)) (v9 : Int) (marks : (List UInt8)) (self : Int → Option ((List UInt8) × (List UInt8))) (K0_ : Unit → Option ((List UInt8) × (List UInt8))) (v24 : Bool) : Option ((List UInt8) × (List UInt8)) :=
 if v24 then
  (sub? s_ 0 v9).bind fun r_ =>
  (sub? s_ v9 (s_.length : Int)).bind fun r_1 =>
  some (r_, r_1)
 else
  self (wi (v9 + 1))
theorem r4_parted_j3_ok {mL : Int} {Q : AExit → St → Prop} {s_ : (List UInt8)} {v9 : Int} {marks : (List UInt8)} {self : Int → Option ((List UInt8) × (List UInt8))} {K0_ : Unit → Option ((List UInt8) × (List UInt8))} {v24 : Bool} {o : ((List UInt8) × (List UInt8))} (h : r4_parted_j3 s_ v9 marks self K0_ v24 = some o)
  (hself : ∀ (v9 : Int), self v9 = some o → ∀ s, Weak 0 s ⟨(upd (upd (upd (upd (fun _ => none) 0 (some (S s_))) 1 (some (S marks))) 8 (some (I (s_.length : Int)))) 9 (some (I v9))), (fun _ => none), 0⟩ → (Q) .normal s)
  (hK0 : ∀ (_ : Unit), K0_ () = some o → ∀ s, Weak 0 s ⟨(upd (fun _ => none) 0 (some (S s_))), (fun _ => none), 0⟩ → Q (.exit 0) s)
  (hr : ∀ s, Ends a29.results 0 (r4_parted_post o) .ret s → Q .ret s) :
  Sv Tryz.prog (GG mL) 0 a29_c0 (r4_parted_q1 mL Q) ⟨(upd (upd (upd (upd (upd (upd (fun _ => none) 0 (some (S s_))) 1 (some (S marks))) 6 (some (I v9))) 8 (some (I (s_.length : Int)))) 9 (some (I v9))) 24 (some (B v24))), (fun _ => none), 0⟩ := by
 unfold r4_parted_j3 at h
 refine Sv.cond (b := v24) rfl (fun hc2 => ?_) (fun hc2 => ?_)
 ·replace h := ifT hc2 h
  refine Sv.seq ?_
  refine Sv.drawn ?_
  refine un (a1 rfl ?_)
  refine un (a1 rfl ?_)
  obtain ⟨r_, hx1, h⟩ := bnd h
  refine un (a1 (v := (S r_)) (s_slStr rfl rfl rfl hx1) ?_)
  refine un (a1 rfl ?_)
  refine un (a1 rfl ?_)
  obtain ⟨r_1, hx2, h⟩ := bnd h
  refine un (a1 (v := (S r_1)) (s_slStr rfl rfl rfl hx2) ?_)
  refine un (a1 rfl ?_)
  refine un (a1 rfl ?_)
  refine dnil ?_
  refine Sv.ret ?_
  replace h := Option.some.inj h
  subst h
  exact hr _ ⟨_, .refl _, _, rfl, ⟨upd (fun _ => none) 0 (some (.tup [(S r_), (S r_1)])), (fun _ => none), 0⟩, (.tup [(S r_), (S r_1)]), weak_canon [] rfl List.nodup_nil (Nat.le_refl _) nlz (.cons rfl (avAs_tup (.cons (avAs_free rfl) (.cons (avAs_free rfl) .nil))) .nil) .nil, rfl, rfl, rfl, rfl⟩
 ·replace h := ifF hc2 h
  refine Sv.skip ?_
  refine Sv.region ?_
  refine un (a1 (v := (I (wi (v9 + 1)))) rfl ?_)
  refine un (a1 rfl ?_)
  refine dnil ?_
  exact hself (wi (v9 + 1)) h _ (weak_canon [] rfl (by decide) (by decide) nlz (.cons rfl (avAs_free rfl) (.cons rfl (avAs_free rfl) (.cons rfl (avAs_free rfl) (.cons rfl (avAs_free rfl) .nil)))) .nil)
noncomputable def r4_parted_l0 (s_ : (List UInt8)) (marks : (List UInt8)) (K0_ : Unit → Option ((List UInt8) × (List UInt8))) : Nat → Int → Option ((List UInt8) × (List UInt8))
 | 0, _ => none
 | k + 1, v9 =>
  if decide (v9 < (s_.length : Int)) then
   (at? s_ v9).bind fun c_ =>
   if decide ((c_.toNat : Int) < 128) then
    (sub? s_ v9 (wi (v9 + 1))).bind fun r_2 =>
    (strings_Contains marks r_2).bind fun r_3 =>
    r4_parted_j3 s_ v9 marks (r4_parted_l0 s_ marks K0_ k) K0_ r_3
   else
    r4_parted_j3 s_ v9 marks (r4_parted_l0 s_ marks K0_ k) K0_ false
  else
   K0_ ()
theorem r4_parted_l0_ok {mL : Int} {Q : AExit → St → Prop} {s_ : (List UInt8)} {marks : (List UInt8)} {K0_ : Unit → Option ((List UInt8) × (List UInt8))} {k : Nat} {v9 : Int} {o : ((List UInt8) × (List UInt8))} (h : r4_parted_l0 s_ marks K0_ k v9 = some o)
  (hK0 : ∀ (_ : Unit), K0_ () = some o → ∀ s, Weak 0 s ⟨(upd (fun _ => none) 0 (some (S s_))), (fun _ => none), 0⟩ → Q (.exit 0) s)
  (hr : ∀ s, Ends a29.results 0 (r4_parted_post o) .ret s → Q .ret s) :
  Sv Tryz.prog (GG mL) 0 (.loop a29_c2) Q ⟨(upd (upd (upd (upd (fun _ => none) 0 (some (S s_))) 1 (some (S marks))) 8 (some (I (s_.length : Int)))) 9 (some (I v9))), (fun _ => none), 0⟩ := by
 refine Sv.loop (I := fun k s => ∃ (v9 : Int), r4_parted_l0 s_ marks K0_ k v9 = some o ∧ s = ⟨(upd (upd (upd (upd (fun _ => none) 0 (some (S s_))) 1 (some (S marks))) 8 (some (I (s_.length : Int)))) 9 (some (I v9))), (fun _ => none), 0⟩) (fun k s hI => ?_) ⟨v9, h, rfl⟩
 clear h
 clear v9
 obtain ⟨v9, h, rfl⟩ := hI
 cases k with
 | zero => cases h
 | succ k =>
 rw [r4_parted_l0] at h
 have hself : ∀ (v9 : Int), (r4_parted_l0 s_ marks K0_ k) v9 = some o → ∀ s, Weak 0 s ⟨(upd (upd (upd (upd (fun _ => none) 0 (some (S s_))) 1 (some (S marks))) 8 (some (I (s_.length : Int)))) 9 (some (I v9))), (fun _ => none), 0⟩ → (AThen (fun s' => ∃ s'' k', Weak 0 s' s'' ∧ k' < k + 1 ∧ (fun k s => ∃ (v9 : Int), r4_parted_l0 s_ marks K0_ k v9 = some o ∧ s = ⟨(upd (upd (upd (upd (fun _ => none) 0 (some (S s_))) 1 (some (S marks))) 8 (some (I (s_.length : Int)))) 9 (some (I v9))), (fun _ => none), 0⟩) k' s'') Q) .normal s := fun v9 h s hw => ⟨_, k, hw, Nat.lt_succ_self k, v9, h, rfl⟩
 refine Sv.seq ?_
 refine Sv.region ?_
 refine un (a1 (v := (B (decide (v9 < (s_.length : Int))))) rfl ?_)
 refine dnil ?_
 refine Sv.seq ?_
 refine Sv.cond (b := decide (v9 < (s_.length : Int))) rfl (fun hc1 => ?_) (fun hc1 => ?_)
 ·replace h := ifT hc1 h
  refine Sv.skip ?_
  refine Sv.seq ?_
  refine Sv.block ?_
  refine Sv.seq ?_
  refine Sv.region ?_
  refine un (a1 rfl ?_)
  refine un (a1 rfl ?_)
  refine dnil ?_
  refine Sv.seq ?_
  refine Sv.region ?_
  refine un (a1 rfl ?_)
  refine un (a1 rfl ?_)
  obtain ⟨c_, hx3, h⟩ := bnd h
  refine un (a1 (v := (.c (.val (.int .u8 (c_.toNat : Int))))) (s_idxS rfl rfl hx3) ?_)
  refine un (a1 (v := (B (decide ((c_.toNat : Int) < 128)))) rfl ?_)
  refine un (a1 rfl ?_)
  refine split2 (fun hc3 => ?_) (fun hc3 => ?_)
  ·replace h := ifT hc3 h
   refine gt rfl (a1 rfl ?_)
   refine gt rfl (a1 rfl ?_)
   refine gt rfl (a1 rfl ?_)
   refine gt rfl (a1 rfl ?_)
   refine gt rfl (a1 (v := (I (wi (v9 + 1)))) rfl ?_)
   obtain ⟨r_2, hx4, h⟩ := bnd h
   refine gt rfl (a1 (v := (S r_2)) (s_slStr rfl rfl rfl hx4) ?_)
   obtain ⟨r_3, hr1, h⟩ := bnd h
   refine gt rfl (ac_pure (strings_Contains_ok hr1) rfl rfl rfl ?_)
   refine un (a1 (v := (B r_3)) rfl ?_)
   refine dnil ?_
   exact Sv.weak (weak_canon [] rfl (by decide) (by decide) nlz (.cons rfl (avAs_free rfl) (.cons rfl (avAs_free rfl) (.cons rfl (avAs_free rfl) (.cons rfl (avAs_free rfl) (.cons rfl (avAs_free rfl) (.cons rfl (avAs_free rfl) .nil)))))) .nil) (r4_parted_j3_ok h hself hK0 hr)
  ·replace h := ifF hc3 h
   refine gs rfl rfl ?_
   refine gs rfl rfl ?_
   refine gs rfl rfl ?_
   refine gs rfl rfl ?_
   refine gs rfl rfl ?_
   refine gs rfl rfl ?_
   refine gs rfl rfl ?_
   refine un (a1 (v := (B false)) rfl ?_)
   refine dnil ?_
   exact Sv.weak (weak_canon [] rfl (by decide) (by decide) nlz (.cons rfl (avAs_free rfl) (.cons rfl (avAs_free rfl) (.cons rfl (avAs_free rfl) (.cons rfl (avAs_free rfl) (.cons rfl (avAs_free rfl) (.cons rfl (avAs_free rfl) .nil)))))) .nil) (r4_parted_j3_ok h hself hK0 hr)
 ·replace h := ifF hc1 h
  refine Sv.exit ?_
  exact hK0 () h _ (weak_canon [] rfl (by decide) (by decide) nlz (.cons rfl (avAs_free rfl) .nil) .nil)
/-- clerestory/clerestoryref4.parted -/
noncomputable def r4_parted (s_ : (List UInt8)) (marks : (List UInt8)) : Option ((List UInt8) × (List UInt8)) :=
 lim fun kk => r4_parted_l0 s_ marks (fun (_ : Unit) => 
   some (s_, [])) kk 0
theorem r4_parted_ok {mL : Int} {s_ : (List UInt8)} {marks : (List UInt8)} {r : ((List UInt8) × (List UInt8))} (h : r4_parted s_ marks = some r) : CPure Tryz.prog (GG mL) 29 [(S s_), (S marks)] (.tup [(S r.1), (S r.2)]) := by
 refine acalls_of_sv hmix c29 (R := r4_parted_post r) ?_
 unfold r4_parted at h
 refine Sv.seq ?_
 refine Sv.region ?_
 refine un (a1 rfl ?_)
 refine un (a1 rfl ?_)
 refine dnil ?_
 refine Sv.seq ?_
 refine Sv.seq ?_
 refine Sv.region ?_
 refine un (a1 rfl ?_)
 refine un (a1 (v := (I (s_.length : Int))) rfl ?_)
 refine un (a1 rfl ?_)
 refine dnil ?_
 refine Sv.block ?_
 obtain ⟨kk, h⟩ := lim_some h
 refine Sv.weak (weak_canon [] rfl (by decide) (by decide) nlz (.cons rfl (avAs_free rfl) (.cons rfl (avAs_free rfl) (.cons rfl (avAs_free rfl) (.cons rfl (avAs_free rfl) .nil)))) .nil) (r4_parted_l0_ok h ?_ (fun s hs => hs))
 ·intro _ h _ hw1
  refine Sv.weak hw1 ?_
  refine Sv.seq ?_
  refine Sv.region ?_
  refine un (a1 rfl ?_)
  refine un (a1 rfl ?_)
  refine un (a1 rfl ?_)
  refine dnil ?_
  refine Sv.ret ?_
  replace h := Option.some.inj h
  subst h
  exact ⟨_, .refl _, _, rfl, ⟨upd (fun _ => none) 0 (some (.tup [(S s_), (S [])])), (fun _ => none), 0⟩, (.tup [(S s_), (S [])]), weak_canon [] rfl List.nodup_nil (Nat.le_refl _) nlz (.cons rfl (avAs_tup (.cons (avAs_free rfl) (.cons (avAs_free rfl) .nil))) .nil) .nil, rfl, rfl, rfl, rfl⟩
def a31_c0 : ACode := (.seq (.region [(oP 14 (.bin .lss (.tmp 13) (.tmp 12)))])
 (.seq (.cond (.tmp 14) .skip (.exit 0))
 (.seq (.block 1 (.seq (.region [(oP 15 (.iaddr 1 (.tmp 11) (.tmp 13))), (oP 16 (.load false 1 (.tmp 15))), (mV 5 16)])
 (.seq (.seq (.region [(mV 17 5), (oP 18 (.conv .i64 (.tmp 17))), ⟨(some 19), (.call 32 [(.tmp 18), (kI 97), (kI 122)]), none⟩, (oP 20 (.un .not (.tmp 19))), (mV 21 20), ⟨(some 22), (.mov (.tmp 5)), (some (21, true))⟩, ⟨(some 23), (.conv .i64 (.tmp 22)), (some (21, true))⟩, ⟨(some 24), (.call 32 [(.tmp 23), (kI 48), (kI 57)]), (some (21, true))⟩, ⟨(some 25), (.un .not (.tmp 24)), (some (21, true))⟩, ⟨(some 26), (.pick (.tmp 21) (.tmp 25) (.const (.c (.val (.bool false))))), none⟩, (mV 27 26), ⟨(some 28), (.mov (.tmp 5)), (some (27, true))⟩, ⟨(some 29), (.bin .neq (.tmp 28) (.const (.c (.val (.int .u8 45))))), (some (27, true))⟩, ⟨(some 30), (.pick (.tmp 27) (.tmp 29) (.const (.c (.val (.bool false))))), none⟩, (mV 31 30), ⟨(some 32), (.mov (.tmp 5)), (some (31, true))⟩, ⟨(some 33), (.bin .neq (.tmp 32) (.const (.c (.val (.int .u8 46))))), (some (31, true))⟩, ⟨(some 34), (.pick (.tmp 31) (.tmp 33) (.const (.c (.val (.bool false))))), none⟩, (mV 35 34), ⟨(some 36), (.mov (.tmp 5)), (some (35, false))⟩, ⟨(some 37), (.bin .eql (.tmp 36) (.const (.c (.val (.int .u8 46))))), (some (35, false))⟩, ⟨(some 38), (.mov (.tmp 37)), (some (35, false))⟩, ⟨(some 39), (.mov (.tmp 3)), (some (38, true))⟩, ⟨(some 40), (.bin .eql (.tmp 39) (.const (.c (.val (.int .u8 46))))), (some (38, true))⟩, ⟨(some 41), (.pick (.tmp 38) (.tmp 40) (.const (.c (.val (.bool false))))), (some (35, false))⟩, ⟨(some 42), (.pick (.tmp 35) (.const (.c (.val (.bool true)))) (.tmp 41)), none⟩])
 (.cond (.tmp 42) (.seq (.region [⟨(some 2), (.mov (.const (.c (.val (.bool false))))), none⟩])
 .ret) .skip))
 (.region [(mV 43 5), (mV 3 43)]))))
 (.region [⟨(some 44), (.bin .add (.tmp 13) (kI 1)), none⟩, (mV 13 44)]))))
def a31 : AFunc := ⟨1, [(.tmp 2)], (.seq (.region [⟨(some 2), (.mov (.const (.c (.val (.bool false))))), none⟩])
 (.seq (.seq (.region [(mV 6 0), (oP 7 (.lenS (.tmp 6))), ⟨(some 8), (.call 32 [(.tmp 7), (kI 1), (kI 100)]), none⟩, (oP 9 (.un .not (.tmp 8)))])
 (.cond (.tmp 9) (.seq (.region [⟨(some 2), (.mov (.const (.c (.val (.bool false))))), none⟩])
 .ret) .skip))
 (.seq (.region [⟨(some 3), (.mov (.const (.c (.val (.int .u8 46))))), none⟩])
 (.seq (.seq (.region [(mV 10 0), (oP 11 (.toBytes (.tmp 10))), (oP 12 (.len (.tmp 11))), ⟨(some 13), (.mov (kI 0)), none⟩])
 (.block 0 (.loop a31_c0)))
 (.seq (.region [(mV 45 3), ⟨(some 46), (.bin .neq (.tmp 45) (.const (.c (.val (.int .u8 46))))), none⟩, (mV 2 46)])
 .ret)))))⟩
set_option maxRecDepth 100000 in
theorem c31 : compFunc Tryz.prog 31 = some a31 := by kernel_rfl
def r4_hostRight_post (r : Bool) : AV → Heap → Nat → Prop := fun v h' n' => v = (B r) ∧ (h' = (fun _ => none)) ∧ n' = 0
noncomputable def r4_hostRight_l0 (h_ : (List UInt8)) (K0_ : Int → Option Bool) : Nat → Int → Int → Option Bool
 | 0, _, _ => none
 | k + 1, last, v13 =>
  if decide (v13 < ((ints h_).length : Int)) then
   (at? (ints h_) v13).bind fun x_ =>
   if (((((!(r4_Between (wr .i64 x_) 97 122)) && (!(r4_Between (wr .i64 x_) 48 57))) && (!decide (x_ = 45))) && (!decide (x_ = 46))) || ((decide (x_ = 46)) && (decide (last = 46)))) then
    some false
   else
    (r4_hostRight_l0 h_ K0_ k) x_ (wi (v13 + 1))
  else
   K0_ last
theorem r4_hostRight_l0_ok {mL : Int} {Q : AExit → St → Prop} {h_ : (List UInt8)} {K0_ : Int → Option Bool} {k : Nat} {last : Int} {v13 : Int} {o : Bool} (h : r4_hostRight_l0 h_ K0_ k last v13 = some o)
  (hK0 : ∀ (last1 : Int), K0_ last1 = some o → ∀ s, Weak 0 s ⟨(upd (fun _ => none) 3 (some (.c (.val (.int .u8 last1))))), (fun _ => none), 0⟩ → Q (.exit 0) s)
  (hr : ∀ s, Ends a31.results 0 (r4_hostRight_post o) .ret s → Q .ret s) :
  Sv Tryz.prog (GG mL) 0 (.loop a31_c0) Q ⟨(upd (upd (upd (upd (fun _ => none) 3 (some (.c (.val (.int .u8 last))))) 11 (some (lstV false 0 1 (ints h_).length))) 12 (some (I ((ints h_).length : Int)))) 13 (some (I v13))), (upd (fun _ => none) 0 (lstB false 1 ((ints h_).map (eK .u8)))), 1⟩ := by
 refine Sv.loop (I := fun k s => ∃ (last : Int), ∃ (v13 : Int), r4_hostRight_l0 h_ K0_ k last v13 = some o ∧ s = ⟨(upd (upd (upd (upd (fun _ => none) 3 (some (.c (.val (.int .u8 last))))) 11 (some (lstV false 0 1 (ints h_).length))) 12 (some (I ((ints h_).length : Int)))) 13 (some (I v13))), (upd (fun _ => none) 0 (lstB false 1 ((ints h_).map (eK .u8)))), 1⟩) (fun k s hI => ?_) ⟨last, v13, h, rfl⟩
 clear h
 clear v13 last
 obtain ⟨last, v13, h, rfl⟩ := hI
 cases k with
 | zero => cases h
 | succ k =>
 rw [r4_hostRight_l0] at h
 have hself : ∀ (last : Int) (v13 : Int), (r4_hostRight_l0 h_ K0_ k) last v13 = some o → ∀ s, Weak 0 s ⟨(upd (upd (upd (upd (fun _ => none) 3 (some (.c (.val (.int .u8 last))))) 11 (some (lstV false 0 1 (ints h_).length))) 12 (some (I ((ints h_).length : Int)))) 13 (some (I v13))), (upd (fun _ => none) 0 (lstB false 1 ((ints h_).map (eK .u8)))), 1⟩ → (AThen (fun s' => ∃ s'' k', Weak 0 s' s'' ∧ k' < k + 1 ∧ (fun k s => ∃ (last : Int), ∃ (v13 : Int), r4_hostRight_l0 h_ K0_ k last v13 = some o ∧ s = ⟨(upd (upd (upd (upd (fun _ => none) 3 (some (.c (.val (.int .u8 last))))) 11 (some (lstV false 0 1 (ints h_).length))) 12 (some (I ((ints h_).length : Int)))) 13 (some (I v13))), (upd (fun _ => none) 0 (lstB false 1 ((ints h_).map (eK .u8)))), 1⟩) k' s'') Q) .normal s := fun last v13 h s hw => ⟨_, k, hw, Nat.lt_succ_self k, last, v13, h, rfl⟩
 refine Sv.seq ?_
 refine Sv.region ?_
 refine un (a1 (v := (B (decide (v13 < ((ints h_).length : Int))))) rfl ?_)
 refine dnil ?_
 refine Sv.seq ?_
 refine Sv.cond (b := decide (v13 < ((ints h_).length : Int))) rfl (fun hc2 => ?_) (fun hc2 => ?_)
 ·replace h := ifT hc2 h
  refine Sv.skip ?_
  refine Sv.seq ?_
  refine Sv.block ?_
  refine Sv.seq ?_
  refine Sv.region ?_
  obtain ⟨x_, hx1, h⟩ := bnd h
  refine un (a1 (v := (.c (.ref 0 1 v13.toNat 0))) (s_iaddrL rfl rfl (fun h => by cases h) hx1) ?_)
  refine un (a1 (v := (.c (.val (.int .u8 x_)))) (s_loadL (z := false) (e := (eK .u8)) rfl rfl (fun h => by cases h) hx1 rfl rfl) ?_)
  refine un (a1 rfl ?_)
  refine dnil ?_
  refine Sv.seq ?_
  refine Sv.seq ?_
  refine Sv.region ?_
  refine un (a1 rfl ?_)
  refine un (a1 (v := (I (wr .i64 x_))) rfl ?_)
  refine un (ac_pure (r4_Between_ok (mL := mL) (wr .i64 x_) 97 122) rfl rfl rfl ?_)
  refine un (a1 (v := (B (!(r4_Between (wr .i64 x_) 97 122)))) rfl ?_)
  refine un (a1 rfl ?_)
  refine gjoin 5 (d := 26) (v := (B ((!(r4_Between (wr .i64 x_) 97 122)) && (!(r4_Between (wr .i64 x_) 48 57))))) (fun X hX => ?_) ?_
  ·refine split2 (fun hc3 => ?_) (fun hc3 => ?_)
   ·refine gt rfl (a1 rfl ?_)
    refine gt rfl (a1 (v := (I (wr .i64 x_))) rfl ?_)
    refine gt rfl (ac_pure (r4_Between_ok (mL := mL) (wr .i64 x_) 48 57) rfl rfl rfl ?_)
    refine gt rfl (a1 (v := (B (!(r4_Between (wr .i64 x_) 48 57)))) rfl ?_)
    refine un (a1 (v := (B (!(r4_Between (wr .i64 x_) 48 57)))) rfl ?_)
    refine dnil ?_
    exact hX _ (.putEq (by rw [hc3]; rfl) (.skip _ _ (.skip _ _ (.skip _ _ (.skip _ _ (.putEq (by rw [hc3]) (.refl _)) rfl) rfl) rfl) rfl))
   ·refine gs rfl rfl ?_
    refine gs rfl rfl ?_
    refine gs rfl rfl ?_
    refine gs rfl rfl ?_
    refine un (a1 (v := (B false)) rfl ?_)
    refine dnil ?_
    exact hX _ (.putEq (by rw [hc3]; rfl) (.skip _ _ (.skip _ _ (.skip _ _ (.skip _ _ (.putEq (by rw [hc3]) (.refl _)) rfl) rfl) rfl) rfl))
  refine un (a1 rfl ?_)
  refine gjoin 3 (d := 30) (v := (B (((!(r4_Between (wr .i64 x_) 97 122)) && (!(r4_Between (wr .i64 x_) 48 57))) && (!decide (x_ = 45))))) (fun X hX => ?_) ?_
  ·refine split2 (fun hc4 => ?_) (fun hc4 => ?_)
   ·refine gt rfl (a1 rfl ?_)
    refine gt rfl (a1 (v := (B (!decide (x_ = 45)))) rfl ?_)
    refine un (a1 (v := (B (!decide (x_ = 45)))) rfl ?_)
    refine dnil ?_
    exact hX _ (.putEq (by rw [hc4]; rfl) (.skip _ _ (.skip _ _ (.putEq (by rw [hc4]) (.refl _)) rfl) rfl))
   ·refine gs rfl rfl ?_
    refine gs rfl rfl ?_
    refine un (a1 (v := (B false)) rfl ?_)
    refine dnil ?_
    exact hX _ (.putEq (by rw [hc4]; rfl) (.skip _ _ (.skip _ _ (.putEq (by rw [hc4]) (.refl _)) rfl) rfl))
  refine un (a1 rfl ?_)
  refine gjoin 3 (d := 34) (v := (B ((((!(r4_Between (wr .i64 x_) 97 122)) && (!(r4_Between (wr .i64 x_) 48 57))) && (!decide (x_ = 45))) && (!decide (x_ = 46))))) (fun X hX => ?_) ?_
  ·refine split2 (fun hc5 => ?_) (fun hc5 => ?_)
   ·refine gt rfl (a1 rfl ?_)
    refine gt rfl (a1 (v := (B (!decide (x_ = 46)))) rfl ?_)
    refine un (a1 (v := (B (!decide (x_ = 46)))) rfl ?_)
    refine dnil ?_
    exact hX _ (.putEq (by rw [hc5]; rfl) (.skip _ _ (.skip _ _ (.putEq (by rw [hc5]) (.refl _)) rfl) rfl))
   ·refine gs rfl rfl ?_
    refine gs rfl rfl ?_
    refine un (a1 (v := (B false)) rfl ?_)
    refine dnil ?_
    exact hX _ (.putEq (by rw [hc5]; rfl) (.skip _ _ (.skip _ _ (.putEq (by rw [hc5]) (.refl _)) rfl) rfl))
  refine un (a1 rfl ?_)
  refine gjoin 7 (d := 42) (v := (B (((((!(r4_Between (wr .i64 x_) 97 122)) && (!(r4_Between (wr .i64 x_) 48 57))) && (!decide (x_ = 45))) && (!decide (x_ = 46))) || ((decide (x_ = 46)) && (decide (last = 46)))))) (fun X hX => ?_) ?_
  ·refine split2 (fun hc7 => ?_) (fun hc7 => ?_)
   ·refine gs rfl rfl ?_
    refine gs rfl rfl ?_
    refine gs rfl rfl ?_
    refine gu rfl ?_
    refine gu rfl ?_
    refine gs rfl rfl ?_
    refine un (a1 (v := (B true)) rfl ?_)
    refine dnil ?_
    exact hX _ (.putEq (by rw [hc7]; rfl) (.skip _ _ (.skip _ _ (.skip _ _ (.skip _ _ (.skip _ _ (.skip _ _ (.putEq (by rw [hc7]) (.refl _)) rfl) rfl) rfl) rfl) rfl) rfl))
   ·refine gt rfl (a1 rfl ?_)
    refine gt rfl (a1 (v := (B (decide (x_ = 46)))) rfl ?_)
    refine gt rfl (a1 rfl ?_)
    refine gjoin 3 (d := 41) (v := (B ((decide (x_ = 46)) && (decide (last = 46))))) (fun X hX => ?_) ?_
    ·refine split2 (fun hc6 => ?_) (fun hc6 => ?_)
     ·refine gt rfl (a1 rfl ?_)
      refine gt rfl (a1 (v := (B (decide (last = 46)))) rfl ?_)
      refine gt rfl (a1 (v := (B (decide (last = 46)))) rfl ?_)
      refine dnil ?_
      exact hX _ (.putEq (by rw [hc6]; rfl) (.skip _ _ (.skip _ _ (.putEq (by rw [hc6]) (.refl _)) rfl) rfl))
     ·refine gs rfl rfl ?_
      refine gs rfl rfl ?_
      refine gt rfl (a1 (v := (B false)) rfl ?_)
      refine dnil ?_
      exact hX _ (.putEq (by rw [hc6]; rfl) (.skip _ _ (.skip _ _ (.putEq (by rw [hc6]) (.refl _)) rfl) rfl))
    refine un (a1 (v := (B ((decide (x_ = 46)) && (decide (last = 46))))) rfl ?_)
    refine dnil ?_
    exact hX _ (.putEq (by rw [hc7]; rfl) (.skip _ _ (.skip _ _ (.skip _ _ (.skip _ _ (.putEq (by rw [hc7]) (.refl _)) rfl) rfl) rfl) rfl))
  refine dnil ?_
  refine Sv.cond (b := (((((!(r4_Between (wr .i64 x_) 97 122)) && (!(r4_Between (wr .i64 x_) 48 57))) && (!decide (x_ = 45))) && (!decide (x_ = 46))) || ((decide (x_ = 46)) && (decide (last = 46))))) rfl (fun hc8 => ?_) (fun hc8 => ?_)
  ·replace h := ifT hc8 h
   refine Sv.seq ?_
   refine Sv.region ?_
   refine un (a1 rfl ?_)
   refine dnil ?_
   refine Sv.ret ?_
   replace h := Option.some.inj h
   subst h
   exact hr _ ⟨_, .refl _, _, rfl, ⟨upd (fun _ => none) 0 (some (B false)), (fun _ => none), 0⟩, (B false), weak_canon [] rfl List.nodup_nil (Nat.le_refl _) nlz (.cons rfl (avAs_free rfl) .nil) .nil, rfl, rfl, rfl, rfl⟩
  ·replace h := ifF hc8 h
   refine Sv.skip ?_
   refine Sv.region ?_
   refine un (a1 rfl ?_)
   refine un (a1 rfl ?_)
   refine dnil ?_
   refine Sv.region ?_
   refine un (a1 (v := (I (wi (v13 + 1)))) rfl ?_)
   refine un (a1 rfl ?_)
   refine dnil ?_
   exact hself x_ (wi (v13 + 1)) h _ (weak_canon [0] rfl (by decide) (by decide) nlz (.cons rfl (avAs_free rfl) (.cons rfl (avAs_free rfl) (.cons rfl (.c (lstC_ren rfl (by decide))) (.cons rfl (avAs_free rfl) .nil)))) (.row (by decide) rfl (fr_map fun _ => rfl) .nil))
 ·replace h := ifF hc2 h
  refine Sv.exit ?_
  exact hK0 last h _ (weak_canon [] rfl (by decide) (by decide) nlz (.cons rfl (avAs_free rfl) .nil) .nil)
/-- clerestory/clerestoryref4.hostRight -/
noncomputable def r4_hostRight (h_ : (List UInt8)) : Option Bool :=
 if (!(r4_Between (h_.length : Int) 1 100)) then
  some false
 else
  lim fun kk => r4_hostRight_l0 h_ (fun (last1 : Int) => 
    some (!decide (last1 = 46))) kk 46 0
theorem r4_hostRight_ok {mL : Int} {h_ : (List UInt8)} {r : Bool} (h : r4_hostRight h_ = some r) : CPure Tryz.prog (GG mL) 31 [(S h_)] (B r) := by
 refine acalls_of_sv hmix c31 (R := r4_hostRight_post r) ?_
 unfold r4_hostRight at h
 refine Sv.seq ?_
 refine Sv.region ?_
 refine un (a1 rfl ?_)
 refine dnil ?_
 refine Sv.seq ?_
 refine Sv.seq ?_
 refine Sv.region ?_
 refine un (a1 rfl ?_)
 refine un (a1 (v := (I (h_.length : Int))) rfl ?_)
 refine un (ac_pure (r4_Between_ok (mL := mL) (h_.length : Int) 1 100) rfl rfl rfl ?_)
 refine un (a1 (v := (B (!(r4_Between (h_.length : Int) 1 100)))) rfl ?_)
 refine dnil ?_
 refine Sv.cond (b := (!(r4_Between (h_.length : Int) 1 100))) rfl (fun hc1 => ?_) (fun hc1 => ?_)
 ·replace h := ifT hc1 h
  refine Sv.seq ?_
  refine Sv.region ?_
  refine un (a1 rfl ?_)
  refine dnil ?_
  refine Sv.ret ?_
  replace h := Option.some.inj h
  subst h
  exact ⟨_, .refl _, _, rfl, ⟨upd (fun _ => none) 0 (some (B false)), (fun _ => none), 0⟩, (B false), weak_canon [] rfl List.nodup_nil (Nat.le_refl _) nlz (.cons rfl (avAs_free rfl) .nil) .nil, rfl, rfl, rfl, rfl⟩
 ·replace h := ifF hc1 h
  refine Sv.skip ?_
  refine Sv.seq ?_
  refine Sv.region ?_
  refine un (a1 rfl ?_)
  refine dnil ?_
  refine Sv.seq ?_
  refine Sv.seq ?_
  refine Sv.region ?_
  refine un (a1 rfl ?_)
  refine un (a2v (v := (lstV false 0 1 (ints h_).length)) (h' := upd _ 0 (lstB false 1 ((ints h_).map (eK .u8)))) (n' := 1) rfl (s_toBytes rfl) (fun h => by cases h) ?_)
  refine un (a1 (v := (I ((ints h_).length : Int))) (s_lenL rfl (len_nil_of (fun h => by cases h))) ?_)
  refine un (a1 rfl ?_)
  refine dnil ?_
  refine Sv.block ?_
  obtain ⟨kk, h⟩ := lim_some h
  refine Sv.weak (weak_canon [0] rfl (by decide) (by decide) nlz (.cons rfl (avAs_free rfl) (.cons rfl (avAs_free rfl) (.cons rfl (.c (lstC_ren rfl (by decide))) (.cons rfl (avAs_free rfl) .nil)))) (.row (by decide) rfl (fr_map fun _ => rfl) .nil)) (r4_hostRight_l0_ok h ?_ (fun s hs => hs))
  ·intro last1 h _ hw1
   refine Sv.weak hw1 ?_
   refine Sv.seq ?_
   refine Sv.region ?_
   refine un (a1 rfl ?_)
   refine un (a1 (v := (B (!decide (last1 = 46)))) rfl ?_)
   refine un (a1 rfl ?_)
   refine dnil ?_
   refine Sv.ret ?_
   replace h := Option.some.inj h
   subst h
   exact ⟨_, .refl _, _, rfl, ⟨upd (fun _ => none) 0 (some (B (!decide (last1 = 46)))), (fun _ => none), 0⟩, (B (!decide (last1 = 46))), weak_canon [] rfl List.nodup_nil (Nat.le_refl _) nlz (.cons rfl (avAs_free rfl) .nil) .nil, rfl, rfl, rfl, rfl⟩
noncomputable abbrev sb_Grow (l : List UInt8) (x0 : Int) : Option (List UInt8) := bGrow? x0
/-- (*strings.Builder).Grow, by my own walk of it -/
theorem sb_Grow_ok {mL : Int} {z : Bool} {l : List UInt8} {x0 : Int} {r : List UInt8} (hz : z = true → l = []) (h : sb_Grow l x0 = some r) : ACalls Tryz.prog (GG mL) 97 [.c (.ref 0 2 0 0), (I x0)] (bldH 76 5 true []) 2 (bPost 76 5 (.tup []) r) := bGrow_ok blays bL4 b165 h
def a140 : AFunc := ⟨2, [(.tmp 4)], (.seq (.region [⟨(some 4), (.mov (.const (.c (.val (.int .i32 0))))), none⟩])
 (.seq (.region [(mV 6 0), (mV 7 1), (oP 8 (.load false 1 (.glob 6))), (oP 9 (.call 143 [(.tmp 6), (.tmp 7), (.tmp 8)])), (mV 5 9), (oP 10 (.ext (.tmp 5) 0)), (oP 11 (.ext (.tmp 5) 1)), (mV 1 10)])
 (.seq (.region [(mV 12 1), (mV 4 12)])
 .ret)))⟩
set_option maxRecDepth 100000 in
theorem c140 : compFunc Tryz.prog 140 = some a140 := by kernel_rfl
def unicode_To_post (r : Int) : AV → Heap → Nat → Prop := fun v h' n' => v = (.c (.val (.int .i32 r))) ∧ (h' = (fun _ => none)) ∧ n' = 0
/-- unicode.To -/
noncomputable def unicode_To (_case : Int) (r_ : Int) : Option Int :=
 none
theorem unicode_To_ok {mL : Int} {_case : Int} {r_ : Int} {r : Int} (h : unicode_To _case r_ = some r) : CPure Tryz.prog (GG mL) 140 [(I _case), (.c (.val (.int .i32 r_)))] (.c (.val (.int .i32 r))) := by
 refine acalls_of_sv hmix c140 (R := unicode_To_post r) ?_
 unfold unicode_To at h
 refine Sv.seq ?_
 refine Sv.region ?_
 refine un (a1 rfl ?_)
 refine dnil ?_
 refine Sv.seq ?_
 refine Sv.region ?_
 refine un (a1 rfl ?_)
 refine un (a1 rfl ?_)
 cases h
def a130_c0 : ACode := (.seq (.region [(mV 13 0), (mV 2 13)])
 .ret)
def a130_c1 : ACode := (.seq (.region [(mV 14 0), ⟨(some 15), (.call 140 [(kI 1), (.tmp 14)]), none⟩, (mV 2 15)])
 .ret)
def a130 : AFunc := ⟨1, [(.tmp 2)], (.seq (.region [⟨(some 2), (.mov (.const (.c (.val (.int .i32 0))))), none⟩])
 (.seq (.seq (.region [(mV 3 0), ⟨(some 4), (.bin .leq (.tmp 3) (.const (.c (.val (.int .i32 127))))), none⟩])
 (.cond (.tmp 4) (.seq (.seq (.region [(mV 5 0), ⟨(some 6), (.bin .leq (.const (.c (.val (.int .i32 65)))) (.tmp 5)), none⟩, (mV 7 6), ⟨(some 8), (.mov (.tmp 0)), (some (7, true))⟩, ⟨(some 9), (.bin .leq (.tmp 8) (.const (.c (.val (.int .i32 90))))), (some (7, true))⟩, ⟨(some 10), (.pick (.tmp 7) (.tmp 9) (.const (.c (.val (.bool false))))), none⟩])
 (.cond (.tmp 10) (.region [(mV 11 0), ⟨(some 12), (.bin .add (.tmp 11) (.const (.c (.val (.int .i32 32))))), none⟩, (mV 0 12)]) .skip))
 a130_c0) .skip))
 a130_c1))⟩
set_option maxRecDepth 100000 in
theorem c130 : compFunc Tryz.prog 130 = some a130 := by kernel_rfl
def unicode_ToLower_post (r : Int) : AV → Heap → Nat → Prop := fun v h' n' => v = (.c (.val (.int .i32 r))) ∧ (h' = (fun _ => none)) ∧ n' = 0
abbrev unicode_ToLower_q0 (mL : Int) (o : Int) : AExit → St → Prop := AThen (Sv Tryz.prog (GG mL) 0 a130_c1 (Ends a130.results 0 (unicode_ToLower_post o))) (Ends a130.results 0 (unicode_ToLower_post o))
noncomputable def unicode_ToLower_j1 (r_1 : Int) : Option Int :=
 some r_1
theorem unicode_ToLower_j1_ok {mL : Int} {r_1 : Int} {o : Int} (h : unicode_ToLower_j1 r_1 = some o) :
  Sv Tryz.prog (GG mL) 0 a130_c0 (unicode_ToLower_q0 mL o) ⟨(upd (fun _ => none) 0 (some (.c (.val (.int .i32 r_1))))), (fun _ => none), 0⟩ := by
 unfold unicode_ToLower_j1 at h
 refine Sv.seq ?_
 refine Sv.region ?_
 refine un (a1 rfl ?_)
 refine un (a1 rfl ?_)
 refine dnil ?_
 refine Sv.ret ?_
 replace h := Option.some.inj h
 subst h
 exact ⟨_, .refl _, _, rfl, ⟨upd (fun _ => none) 0 (some (.c (.val (.int .i32 r_1)))), (fun _ => none), 0⟩, (.c (.val (.int .i32 r_1))), weak_canon [] rfl List.nodup_nil (Nat.le_refl _) nlz (.cons rfl (avAs_free rfl) .nil) .nil, rfl, rfl, rfl, rfl⟩
/-- unicode.ToLower -/
noncomputable def unicode_ToLower (r_ : Int) : Option Int :=
 if decide (r_ ≤ 127) then
  if ((decide (65 ≤ r_)) && (decide (r_ ≤ 90))) then
   unicode_ToLower_j1 (wr .i32 (r_ + 32))
  else
   unicode_ToLower_j1 r_
 else
  (unicode_To 1 r_).bind fun r_2 =>
  some r_2
theorem unicode_ToLower_ok {mL : Int} {r_ : Int} {r : Int} (h : unicode_ToLower r_ = some r) : CPure Tryz.prog (GG mL) 130 [(.c (.val (.int .i32 r_)))] (.c (.val (.int .i32 r))) := by
 refine acalls_of_sv hmix c130 (R := unicode_ToLower_post r) ?_
 unfold unicode_ToLower at h
 refine Sv.seq ?_
 refine Sv.region ?_
 refine un (a1 rfl ?_)
 refine dnil ?_
 refine Sv.seq ?_
 refine Sv.seq ?_
 refine Sv.region ?_
 refine un (a1 rfl ?_)
 refine un (a1 (v := (B (decide (r_ ≤ 127)))) rfl ?_)
 refine dnil ?_
 refine Sv.cond (b := decide (r_ ≤ 127)) rfl (fun hc1 => ?_) (fun hc1 => ?_)
 ·replace h := ifT hc1 h
  refine Sv.seq ?_
  refine Sv.seq ?_
  refine Sv.region ?_
  refine un (a1 rfl ?_)
  refine un (a1 (v := (B (decide (65 ≤ r_)))) rfl ?_)
  refine un (a1 rfl ?_)
  refine gjoin 3 (d := 10) (v := (B ((decide (65 ≤ r_)) && (decide (r_ ≤ 90))))) (fun X hX => ?_) ?_
  ·refine split2 (fun hc2 => ?_) (fun hc2 => ?_)
   ·refine gt rfl (a1 rfl ?_)
    refine gt rfl (a1 (v := (B (decide (r_ ≤ 90)))) rfl ?_)
    refine un (a1 (v := (B (decide (r_ ≤ 90)))) rfl ?_)
    refine dnil ?_
    exact hX _ (.putEq (by rw [hc2]; rfl) (.skip _ _ (.skip _ _ (.putEq (by rw [hc2]) (.refl _)) rfl) rfl))
   ·refine gs rfl rfl ?_
    refine gs rfl rfl ?_
    refine un (a1 (v := (B false)) rfl ?_)
    refine dnil ?_
    exact hX _ (.putEq (by rw [hc2]; rfl) (.skip _ _ (.skip _ _ (.putEq (by rw [hc2]) (.refl _)) rfl) rfl))
  refine dnil ?_
  refine Sv.cond (b := ((decide (65 ≤ r_)) && (decide (r_ ≤ 90)))) rfl (fun hc3 => ?_) (fun hc3 => ?_)
  ·replace h := ifT hc3 h
   refine Sv.region ?_
   refine un (a1 rfl ?_)
   refine un (a1 (v := (.c (.val (.int .i32 (wr .i32 (r_ + 32)))))) rfl ?_)
   refine un (a1 rfl ?_)
   refine dnil ?_
   exact Sv.weak (weak_canon [] rfl (by decide) (by decide) nlz (.cons rfl (avAs_free rfl) .nil) .nil) (unicode_ToLower_j1_ok h)
  ·replace h := ifF hc3 h
   refine Sv.skip ?_
   exact Sv.weak (weak_canon [] rfl (by decide) (by decide) nlz (.cons rfl (avAs_free rfl) .nil) .nil) (unicode_ToLower_j1_ok h)
 ·replace h := ifF hc1 h
  refine Sv.skip ?_
  refine Sv.seq ?_
  refine Sv.region ?_
  refine un (a1 rfl ?_)
  obtain ⟨r_2, hr1, h⟩ := bnd h
  refine un (ac_pure (unicode_To_ok hr1) rfl rfl rfl ?_)
  refine un (a1 rfl ?_)
  refine dnil ?_
  refine Sv.ret ?_
  replace h := Option.some.inj h
  subst h
  exact ⟨_, .refl _, _, rfl, ⟨upd (fun _ => none) 0 (some (.c (.val (.int .i32 r_2)))), (fun _ => none), 0⟩, (.c (.val (.int .i32 r_2))), weak_canon [] rfl List.nodup_nil (Nat.le_refl _) nlz (.cons rfl (avAs_free rfl) .nil) .nil, rfl, rfl, rfl, rfl⟩
def a113_c0 : ACode := (.seq (.seq (.region [(mV 11 5), (mV 12 0), (oP 13 (.lenS (.tmp 12))), (oP 14 (.bin .lss (.tmp 11) (.tmp 13)))])
 (.cond (.tmp 14) .skip (.exit 0)))
 (.seq (.block 1 (.seq (.region [(mV 17 0), (mV 18 5), (oP 19 (.idxS (.tmp 17) (.tmp 18))), (mV 6 19)])
 (.seq (.seq (.region [(mV 20 6), ⟨(some 21), (.bin .geq (.tmp 20) (.const (.c (.val (.int .u8 128))))), none⟩])
 (.cond (.tmp 21) (.seq (.region [⟨(some 3), (.mov (.const (.c (.val (.bool false))))), none⟩])
 (.exit 0)) .skip))
 (.region [(mV 22 4), (mV 23 22), ⟨(some 24), (.mov (.tmp 6)), (some (23, false))⟩, ⟨(some 25), (.bin .leq (.const (.c (.val (.int .u8 65)))) (.tmp 24)), (some (23, false))⟩, ⟨(some 26), (.mov (.tmp 25)), (some (23, false))⟩, ⟨(some 27), (.mov (.tmp 6)), (some (26, true))⟩, ⟨(some 28), (.bin .leq (.tmp 27) (.const (.c (.val (.int .u8 90))))), (some (26, true))⟩, ⟨(some 29), (.pick (.tmp 26) (.tmp 28) (.const (.c (.val (.bool false))))), (some (23, false))⟩, ⟨(some 30), (.pick (.tmp 23) (.const (.c (.val (.bool true)))) (.tmp 29)), none⟩, (mV 4 30)]))))
 (.region [(mV 15 5), ⟨(some 16), (.bin .add (.tmp 15) (kI 1)), none⟩, (mV 5 16)])))
def a113_c1 : ACode := (.seq (.region [(mV 63 10), (oP 64 (.call 87 [(.tmp 7), (.tmp 63)]))])
 (.region [(mV 65 9), ⟨(some 66), (.bin .add (.tmp 65) (kI 1)), none⟩, (mV 8 66)]))
def a113_c2 : ACode := (.region [(mV 42 9), ⟨(some 43), (.bin .add (.tmp 42) (kI 1)), none⟩, (mV 9 43)])
def a113_c3 : ACode := (.seq (.seq (.region [(mV 38 9), (mV 39 0), (oP 40 (.lenS (.tmp 39))), (oP 41 (.bin .lss (.tmp 38) (.tmp 40)))])
 (.cond (.tmp 41) .skip (.exit 2)))
 (.seq (.block 3 (.seq (.region [(mV 44 0), (mV 45 9), (oP 46 (.idxS (.tmp 44) (.tmp 45))), (mV 10 46)])
 (.seq (.region [(mV 47 10), ⟨(some 48), (.bin .leq (.const (.c (.val (.int .u8 65)))) (.tmp 47)), none⟩, (mV 49 48), ⟨(some 50), (.mov (.tmp 10)), (some (49, true))⟩, ⟨(some 51), (.bin .leq (.tmp 50) (.const (.c (.val (.int .u8 90))))), (some (49, true))⟩, ⟨(some 52), (.pick (.tmp 49) (.tmp 51) (.const (.c (.val (.bool false))))), none⟩])
 (.cond (.tmp 52) (.seq (.region [(mV 53 10), ⟨(some 54), (.bin .add (.tmp 53) (.const (.c (.val (.int .u8 32))))), none⟩, (mV 10 54)])
 (.seq (.seq (.region [(mV 55 8), (mV 56 9), (oP 57 (.bin .lss (.tmp 55) (.tmp 56)))])
 (.cond (.tmp 57) (.region [(mV 58 0), (mV 59 8), (mV 60 9), (oP 61 (.slStr (.tmp 58) (some (.tmp 59)) (some (.tmp 60)))), (oP 62 (.call 64 [(.tmp 7), (.tmp 61)]))]) .skip))
 a113_c1)) .skip))))
 a113_c2))
def a113_c4 : ACode := (.seq (.region [(oP 75 (.call 66 [(.tmp 7)])), (mV 2 75)])
 .ret)
def a113_c5 : ACode := (.seq (.region [(mV 76 0), ⟨(some 77), (.call 70 [(.const (.c (.fn (.func 130) [] []))), (.tmp 76)]), none⟩, (mV 2 77)])
 .ret)
def a113 : AFunc := ⟨1, [(.tmp 2)], (.seq (.region [⟨(some 2), (.mov (.const (.c (.str [])))), none⟩])
 (.seq (.region [⟨(some 3), (.mov (.const (.c (.val (.bool true))))), none⟩, ⟨(some 4), (.mov (.const (.c (.val (.bool false))))), none⟩])
 (.seq (.seq (.region [⟨(some 5), (.mov (kI 0)), none⟩])
 (.block 0 (.loop a113_c0)))
 (.seq (.seq (.region [(mV 31 3)])
 (.cond (.tmp 31) (.seq (.seq (.region [(mV 32 4), (oP 33 (.un .not (.tmp 32)))])
 (.cond (.tmp 33) (.seq (.region [(mV 34 0), (mV 2 34)])
 .ret) .skip))
 (.seq (.region [(oP 7 (.boxB 76))])
 (.seq (.region [⟨(some 8), (.mov (kI 0)), none⟩])
 (.seq (.region [(mV 35 0), (oP 36 (.lenS (.tmp 35))), (oP 37 (.call 97 [(.tmp 7), (.tmp 36)]))])
 (.seq (.seq (.region [⟨(some 9), (.mov (kI 0)), none⟩])
 (.block 2 (.loop a113_c3)))
 (.seq (.seq (.region [(mV 67 8), (mV 68 0), (oP 69 (.lenS (.tmp 68))), (oP 70 (.bin .lss (.tmp 67) (.tmp 69)))])
 (.cond (.tmp 70) (.region [(mV 71 0), (mV 72 8), (oP 73 (.slStr (.tmp 71) (some (.tmp 72)) none)), (oP 74 (.call 64 [(.tmp 7), (.tmp 73)]))]) .skip))
 a113_c4)))))) .skip))
 a113_c5))))⟩
set_option maxRecDepth 100000 in
theorem c113 : compFunc Tryz.prog 113 = some a113 := by kernel_rfl
def strings_ToLower_post (r : (List UInt8)) : AV → Heap → Nat → Prop := fun v h' n' => v = (S r) ∧ (h' = (fun _ => none)) ∧ n' = 0
noncomputable def strings_ToLower_l0 (s_ : (List UInt8)) (K0_ : Bool → Bool → Option (List UInt8)) : Nat → Bool → Int → Option (List UInt8)
 | 0, _, _ => none
 | k + 1, hasUpper, i_ =>
  if decide (i_ < (s_.length : Int)) then
   (at? s_ i_).bind fun c_ =>
   if decide (128 ≤ (c_.toNat : Int)) then
    K0_ false hasUpper
   else
    (strings_ToLower_l0 s_ K0_ k) (hasUpper || ((decide (65 ≤ (c_.toNat : Int))) && (decide ((c_.toNat : Int) ≤ 90)))) (wi (i_ + 1))
  else
   K0_ true hasUpper
theorem strings_ToLower_l0_ok {mL : Int} {Q : AExit → St → Prop} {s_ : (List UInt8)} {K0_ : Bool → Bool → Option (List UInt8)} {k : Nat} {hasUpper : Bool} {i_ : Int} {o : (List UInt8)} (h : strings_ToLower_l0 s_ K0_ k hasUpper i_ = some o)
  (hK0 : ∀ (isASCII : Bool) (hasUpper1 : Bool), K0_ isASCII hasUpper1 = some o → ∀ s, Weak 0 s ⟨(upd (upd (upd (fun _ => none) 0 (some (S s_))) 3 (some (B isASCII))) 4 (some (B hasUpper1))), (fun _ => none), 0⟩ → Q (.exit 0) s)
  (hr : ∀ s, Ends a113.results 0 (strings_ToLower_post o) .ret s → Q .ret s) :
  Sv Tryz.prog (GG mL) 0 (.loop a113_c0) Q ⟨(upd (upd (upd (upd (fun _ => none) 0 (some (S s_))) 3 (some (B true))) 4 (some (B hasUpper))) 5 (some (I i_))), (fun _ => none), 0⟩ := by
 refine Sv.loop (I := fun k s => ∃ (hasUpper : Bool), ∃ (i_ : Int), strings_ToLower_l0 s_ K0_ k hasUpper i_ = some o ∧ s = ⟨(upd (upd (upd (upd (fun _ => none) 0 (some (S s_))) 3 (some (B true))) 4 (some (B hasUpper))) 5 (some (I i_))), (fun _ => none), 0⟩) (fun k s hI => ?_) ⟨hasUpper, i_, h, rfl⟩
 clear h
 clear i_ hasUpper
 obtain ⟨hasUpper, i_, h, rfl⟩ := hI
 cases k with
 | zero => cases h
 | succ k =>
 rw [strings_ToLower_l0] at h
 have hself : ∀ (hasUpper : Bool) (i_ : Int), (strings_ToLower_l0 s_ K0_ k) hasUpper i_ = some o → ∀ s, Weak 0 s ⟨(upd (upd (upd (upd (fun _ => none) 0 (some (S s_))) 3 (some (B true))) 4 (some (B hasUpper))) 5 (some (I i_))), (fun _ => none), 0⟩ → (AThen (fun s' => ∃ s'' k', Weak 0 s' s'' ∧ k' < k + 1 ∧ (fun k s => ∃ (hasUpper : Bool), ∃ (i_ : Int), strings_ToLower_l0 s_ K0_ k hasUpper i_ = some o ∧ s = ⟨(upd (upd (upd (upd (fun _ => none) 0 (some (S s_))) 3 (some (B true))) 4 (some (B hasUpper))) 5 (some (I i_))), (fun _ => none), 0⟩) k' s'') Q) .normal s := fun hasUpper i_ h s hw => ⟨_, k, hw, Nat.lt_succ_self k, hasUpper, i_, h, rfl⟩
 refine Sv.seq ?_
 refine Sv.seq ?_
 refine Sv.region ?_
 refine un (a1 rfl ?_)
 refine un (a1 rfl ?_)
 refine un (a1 (v := (I (s_.length : Int))) rfl ?_)
 refine un (a1 (v := (B (decide (i_ < (s_.length : Int))))) rfl ?_)
 refine dnil ?_
 refine Sv.cond (b := decide (i_ < (s_.length : Int))) rfl (fun hc1 => ?_) (fun hc1 => ?_)
 ·replace h := ifT hc1 h
  refine Sv.skip ?_
  refine Sv.seq ?_
  refine Sv.block ?_
  refine Sv.seq ?_
  refine Sv.region ?_
  refine un (a1 rfl ?_)
  refine un (a1 rfl ?_)
  obtain ⟨c_, hx1, h⟩ := bnd h
  refine un (a1 (v := (.c (.val (.int .u8 (c_.toNat : Int))))) (s_idxS rfl rfl hx1) ?_)
  refine un (a1 rfl ?_)
  refine dnil ?_
  refine Sv.seq ?_
  refine Sv.seq ?_
  refine Sv.region ?_
  refine un (a1 rfl ?_)
  refine un (a1 (v := (B (decide (128 ≤ (c_.toNat : Int))))) rfl ?_)
  refine dnil ?_
  refine Sv.cond (b := decide (128 ≤ (c_.toNat : Int))) rfl (fun hc2 => ?_) (fun hc2 => ?_)
  ·replace h := ifT hc2 h
   refine Sv.seq ?_
   refine Sv.region ?_
   refine un (a1 rfl ?_)
   refine dnil ?_
   refine Sv.exit ?_
   exact hK0 false hasUpper h _ (weak_canon [] rfl (by decide) (by decide) nlz (.cons rfl (avAs_free rfl) (.cons rfl (avAs_free rfl) (.cons rfl (avAs_free rfl) .nil))) .nil)
  ·replace h := ifF hc2 h
   refine Sv.skip ?_
   refine Sv.region ?_
   refine un (a1 rfl ?_)
   refine un (a1 rfl ?_)
   refine gjoin 7 (d := 30) (v := (B (hasUpper || ((decide (65 ≤ (c_.toNat : Int))) && (decide ((c_.toNat : Int) ≤ 90)))))) (fun X hX => ?_) ?_
   ·refine split2 (fun hc4 => ?_) (fun hc4 => ?_)
    ·refine gs rfl rfl ?_
     refine gs rfl rfl ?_
     refine gs rfl rfl ?_
     refine gu rfl ?_
     refine gu rfl ?_
     refine gs rfl rfl ?_
     refine un (a1 (v := (B true)) rfl ?_)
     refine dnil ?_
     exact hX _ (.putEq (by rw [hc4]; rfl) (.skip _ _ (.skip _ _ (.skip _ _ (.skip _ _ (.skip _ _ (.skip _ _ (.putEq (by rw [hc4]) (.refl _)) rfl) rfl) rfl) rfl) rfl) rfl))
    ·refine gt rfl (a1 rfl ?_)
     refine gt rfl (a1 (v := (B (decide (65 ≤ (c_.toNat : Int))))) rfl ?_)
     refine gt rfl (a1 rfl ?_)
     refine gjoin 3 (d := 29) (v := (B ((decide (65 ≤ (c_.toNat : Int))) && (decide ((c_.toNat : Int) ≤ 90))))) (fun X hX => ?_) ?_
     ·refine split2 (fun hc3 => ?_) (fun hc3 => ?_)
      ·refine gt rfl (a1 rfl ?_)
       refine gt rfl (a1 (v := (B (decide ((c_.toNat : Int) ≤ 90)))) rfl ?_)
       refine gt rfl (a1 (v := (B (decide ((c_.toNat : Int) ≤ 90)))) rfl ?_)
       refine dnil ?_
       exact hX _ (.putEq (by rw [hc3]; rfl) (.skip _ _ (.skip _ _ (.putEq (by rw [hc3]) (.refl _)) rfl) rfl))
      ·refine gs rfl rfl ?_
       refine gs rfl rfl ?_
       refine gt rfl (a1 (v := (B false)) rfl ?_)
       refine dnil ?_
       exact hX _ (.putEq (by rw [hc3]; rfl) (.skip _ _ (.skip _ _ (.putEq (by rw [hc3]) (.refl _)) rfl) rfl))
     refine un (a1 (v := (B ((decide (65 ≤ (c_.toNat : Int))) && (decide ((c_.toNat : Int) ≤ 90))))) rfl ?_)
     refine dnil ?_
     exact hX _ (.putEq (by rw [hc4]; rfl) (.skip _ _ (.skip _ _ (.skip _ _ (.skip _ _ (.putEq (by rw [hc4]) (.refl _)) rfl) rfl) rfl) rfl))
   refine un (a1 rfl ?_)
   refine dnil ?_
   refine Sv.region ?_
   refine un (a1 rfl ?_)
   refine un (a1 (v := (I (wi (i_ + 1)))) rfl ?_)
   refine un (a1 rfl ?_)
   refine dnil ?_
   exact hself (hasUpper || ((decide (65 ≤ (c_.toNat : Int))) && (decide ((c_.toNat : Int) ≤ 90)))) (wi (i_ + 1)) h _ (weak_canon [] rfl (by decide) (by decide) nlz (.cons rfl (avAs_free rfl) (.cons rfl (avAs_free rfl) (.cons rfl (avAs_free rfl) (.cons rfl (avAs_free rfl) .nil)))) .nil)
 ·replace h := ifF hc1 h
  refine Sv.exit ?_
  exact hK0 true hasUpper h _ (weak_canon [] rfl (by decide) (by decide) nlz (.cons rfl (avAs_free rfl) (.cons rfl (avAs_free rfl) (.cons rfl (avAs_free rfl) .nil))) .nil)
noncomputable def strings_ToLower_j11 (i_1 : Int) (s_ : (List UInt8)) (self : (List UInt8) → Int → Int → Option (List UInt8)) (K2_ : (List UInt8) → Int → Option (List UInt8)) (b_2 : (List UInt8)) (pos_2 : Int) : Option (List UInt8) :=
 self b_2 pos_2 (wi (i_1 + 1))
theorem strings_ToLower_j11_ok {mL : Int} {Q : AExit → St → Prop} {i_1 : Int} {s_ : (List UInt8)} {self : (List UInt8) → Int → Int → Option (List UInt8)} {K2_ : (List UInt8) → Int → Option (List UInt8)} {b_2 : (List UInt8)} {pos_2 : Int} {zb_2 : Bool} (hzb_2 : zb_2 = true → b_2 = []) {o : (List UInt8)} (h : strings_ToLower_j11 i_1 s_ self K2_ b_2 pos_2 = some o)
  (hself : ∀ (b_ : (List UInt8)) (pos_ : Int) (i_1 : Int) (zb : Bool) (_ : zb = true → b_ = []), self b_ pos_ i_1 = some o → ∀ s, Weak 0 s ⟨(upd (upd (upd (upd (fun _ => none) 0 (some (S s_))) 7 (some (.c (.ref 0 2 0 0)))) 8 (some (I pos_))) 9 (some (I i_1))), (upd (upd (fun _ => none) 0 (some (.bld 76 zb 1 b_.length))) 1 (bufB zb 5 b_)), 2⟩ → (Q) .normal s)
  (hK2 : ∀ (b_1 : (List UInt8)) (pos_1 : Int) (zb_1 : Bool) (_ : zb_1 = true → b_1 = []), K2_ b_1 pos_1 = some o → ∀ s, Weak 0 s ⟨(upd (upd (upd (fun _ => none) 0 (some (S s_))) 7 (some (.c (.ref 0 2 0 0)))) 8 (some (I pos_1))), (upd (upd (fun _ => none) 0 (some (.bld 76 zb_1 1 b_1.length))) 1 (bufB zb_1 5 b_1)), 2⟩ → Q (.exit 2) s)
  (hr : ∀ s, Ends a113.results 0 (strings_ToLower_post o) .ret s → Q .ret s) :
  Sv Tryz.prog (GG mL) 0 a113_c2 Q ⟨(upd (upd (upd (upd (fun _ => none) 0 (some (S s_))) 7 (some (.c (.ref 0 2 0 0)))) 8 (some (I pos_2))) 9 (some (I i_1))), (upd (upd (fun _ => none) 0 (some (.bld 76 zb_2 1 b_2.length))) 1 (bufB zb_2 5 b_2)), 2⟩ := by
 unfold strings_ToLower_j11 at h
 refine Sv.region ?_
 refine un (a1 rfl ?_)
 refine un (a1 (v := (I (wi (i_1 + 1)))) rfl ?_)
 refine un (a1 rfl ?_)
 refine dnil ?_
 exact hself b_2 pos_2 (wi (i_1 + 1)) zb_2 hzb_2 h _ (weak_canon [0, 1] rfl (by decide) (by decide) nlz (.cons rfl (avAs_free rfl) (.cons rfl (avAs_free rfl) (.cons rfl (.c (.ref rfl (by decide))) (.cons rfl (avAs_free rfl) .nil)))) (.buf (by decide) rfl (.box (by decide) rfl (.bld rfl (by decide)) .nil)))
abbrev strings_ToLower_q0 (mL : Int) (Q : AExit → St → Prop) : AExit → St → Prop := AThen (Sv Tryz.prog (GG mL) 0 a113_c2 Q) Q
abbrev strings_ToLower_q1 (mL : Int) (Q : AExit → St → Prop) : AExit → St → Prop := ABlock 3 (strings_ToLower_q0 mL Q)
noncomputable def strings_ToLower_j12 (c_1 : UInt8) (i_1 : Int) (s_ : (List UInt8)) (self : (List UInt8) → Int → Int → Option (List UInt8)) (K2_ : (List UInt8) → Int → Option (List UInt8)) (b_3 : (List UInt8)) : Option (List UInt8) :=
 (sb_WriteByte b_3 (wr .u8 ((c_1.toNat : Int) + 32))).bind fun r_1 =>
 strings_ToLower_j11 i_1 s_ self K2_ r_1 (wi (i_1 + 1))
theorem strings_ToLower_j12_ok {mL : Int} {Q : AExit → St → Prop} {c_1 : UInt8} {i_1 : Int} {s_ : (List UInt8)} {self : (List UInt8) → Int → Int → Option (List UInt8)} {K2_ : (List UInt8) → Int → Option (List UInt8)} {b_3 : (List UInt8)} {zb_3 : Bool} (hzb_3 : zb_3 = true → b_3 = []) {o : (List UInt8)} (h : strings_ToLower_j12 c_1 i_1 s_ self K2_ b_3 = some o)
  (hself : ∀ (b_ : (List UInt8)) (pos_ : Int) (i_1 : Int) (zb : Bool) (_ : zb = true → b_ = []), self b_ pos_ i_1 = some o → ∀ s, Weak 0 s ⟨(upd (upd (upd (upd (fun _ => none) 0 (some (S s_))) 7 (some (.c (.ref 0 2 0 0)))) 8 (some (I pos_))) 9 (some (I i_1))), (upd (upd (fun _ => none) 0 (some (.bld 76 zb 1 b_.length))) 1 (bufB zb 5 b_)), 2⟩ → (Q) .normal s)
  (hK2 : ∀ (b_1 : (List UInt8)) (pos_1 : Int) (zb_1 : Bool) (_ : zb_1 = true → b_1 = []), K2_ b_1 pos_1 = some o → ∀ s, Weak 0 s ⟨(upd (upd (upd (fun _ => none) 0 (some (S s_))) 7 (some (.c (.ref 0 2 0 0)))) 8 (some (I pos_1))), (upd (upd (fun _ => none) 0 (some (.bld 76 zb_1 1 b_1.length))) 1 (bufB zb_1 5 b_1)), 2⟩ → Q (.exit 2) s)
  (hr : ∀ s, Ends a113.results 0 (strings_ToLower_post o) .ret s → Q .ret s) :
  Sv Tryz.prog (GG mL) 0 a113_c1 (strings_ToLower_q1 mL Q) ⟨(upd (upd (upd (upd (fun _ => none) 0 (some (S s_))) 7 (some (.c (.ref 0 2 0 0)))) 9 (some (I i_1))) 10 (some (.c (.val (.int .u8 (wr .u8 ((c_1.toNat : Int) + 32))))))), (upd (upd (fun _ => none) 0 (some (.bld 76 zb_3 1 b_3.length))) 1 (bufB zb_3 5 b_3)), 2⟩ := by
 unfold strings_ToLower_j12 at h
 refine Sv.seq ?_
 refine Sv.region ?_
 refine un (a1 rfl ?_)
 obtain ⟨r_1, hr2, h⟩ := bnd h
 refine un (ac_gen (bs := [0, 1]) («as» := [(.c (.ref 0 2 0 0)), (.c (.val (.int .u8 (wr .u8 ((c_1.toNat : Int) + 32)))))]) (h2 := _) (h1 := (upd (upd (fun _ => none) 0 (some (.bld 76 zb_3 1 b_3.length))) 1 (bufB zb_3 5 b_3))) (sb_WriteByte_ok (z := zb_3) (l := b_3) hzb_3 hr2) rfl (.cons (.c (.ref rfl (by decide))) (.cons (avAs_free rfl) .nil)) (hsub_refl _) (.cons rfl (.cons rfl (.nil _))) (fun h => by cases h) (by decide) (by decide) (.cons (.c (.ref rfl (by decide))) (.cons (avAs_free rfl) .nil)) (.buf (by decide) rfl (.box (by decide) rfl (.bld rfl (by decide)) .nil)) ?_)
 rintro _ _ _ hn ⟨z_1, hz_1, rfl, rfl, rfl⟩
 refine ⟨.inl rfl, (upd (upd (rem [0, 1] _) 0 (some (.bld 76 z_1 2 r_1.length))) 2 (bufB z_1 5 r_1)), fun hbd => (m3_cons (m3_buf rfl) (m3_cons (m3_box rfl rfl) (m3_rem (in_cons (by decide) (in_cons (by decide) (in_nil _))) (.cons (by decide) (.cons (by decide) .nil)) hbd))), (.c (.val .nilIface)), 3, (by cases z_1 <;> rfl), rfl, ?_⟩
 refine dnil ?_
 refine Sv.region ?_
 refine un (a1 rfl ?_)
 refine un (a1 (v := (I (wi (i_1 + 1)))) rfl ?_)
 refine un (a1 rfl ?_)
 refine dnil ?_
 exact Sv.weak (weak_canon [0, 2] rfl (by decide) (by decide) nlz (.cons rfl (avAs_free rfl) (.cons rfl (avAs_free rfl) (.cons rfl (.c (.ref rfl (by decide))) (.cons rfl (avAs_free rfl) .nil)))) (.buf (by decide) rfl (.box (by decide) rfl (.bld rfl (by decide)) .nil))) (strings_ToLower_j11_ok hz_1 h hself hK2 hr)
noncomputable def strings_ToLower_l1 (s_ : (List UInt8)) (K2_ : (List UInt8) → Int → Option (List UInt8)) : Nat → (List UInt8) → Int → Int → Option (List UInt8)
 | 0, _, _, _ => none
 | k + 1, b_, pos_, i_1 =>
  if decide (i_1 < (s_.length : Int)) then
   (at? s_ i_1).bind fun c_1 =>
   if ((decide (65 ≤ (c_1.toNat : Int))) && (decide ((c_1.toNat : Int) ≤ 90))) then
    if decide (pos_ < i_1) then
     (sub? s_ pos_ i_1).bind fun r_2 =>
     (sb_WriteString b_ r_2).bind fun r_3 =>
     strings_ToLower_j12 c_1 i_1 s_ (strings_ToLower_l1 s_ K2_ k) K2_ r_3
    else
     strings_ToLower_j12 c_1 i_1 s_ (strings_ToLower_l1 s_ K2_ k) K2_ b_
   else
    strings_ToLower_j11 i_1 s_ (strings_ToLower_l1 s_ K2_ k) K2_ b_ pos_
  else
   K2_ b_ pos_
theorem strings_ToLower_l1_ok {mL : Int} {Q : AExit → St → Prop} {s_ : (List UInt8)} {K2_ : (List UInt8) → Int → Option (List UInt8)} {k : Nat} {b_ : (List UInt8)} {pos_ : Int} {i_1 : Int} {zb : Bool} (hzb : zb = true → b_ = []) {o : (List UInt8)} (h : strings_ToLower_l1 s_ K2_ k b_ pos_ i_1 = some o)
  (hK2 : ∀ (b_1 : (List UInt8)) (pos_1 : Int) (zb_1 : Bool) (_ : zb_1 = true → b_1 = []), K2_ b_1 pos_1 = some o → ∀ s, Weak 0 s ⟨(upd (upd (upd (fun _ => none) 0 (some (S s_))) 7 (some (.c (.ref 0 2 0 0)))) 8 (some (I pos_1))), (upd (upd (fun _ => none) 0 (some (.bld 76 zb_1 1 b_1.length))) 1 (bufB zb_1 5 b_1)), 2⟩ → Q (.exit 2) s)
  (hr : ∀ s, Ends a113.results 0 (strings_ToLower_post o) .ret s → Q .ret s) :
  Sv Tryz.prog (GG mL) 0 (.loop a113_c3) Q ⟨(upd (upd (upd (upd (fun _ => none) 0 (some (S s_))) 7 (some (.c (.ref 0 2 0 0)))) 8 (some (I pos_))) 9 (some (I i_1))), (upd (upd (fun _ => none) 0 (some (.bld 76 zb 1 b_.length))) 1 (bufB zb 5 b_)), 2⟩ := by
 refine Sv.loop (I := fun k s => ∃ (b_ : (List UInt8)), ∃ (pos_ : Int), ∃ (i_1 : Int), ∃ (zb : Bool), (zb = true → b_ = []) ∧ strings_ToLower_l1 s_ K2_ k b_ pos_ i_1 = some o ∧ s = ⟨(upd (upd (upd (upd (fun _ => none) 0 (some (S s_))) 7 (some (.c (.ref 0 2 0 0)))) 8 (some (I pos_))) 9 (some (I i_1))), (upd (upd (fun _ => none) 0 (some (.bld 76 zb 1 b_.length))) 1 (bufB zb 5 b_)), 2⟩) (fun k s hI => ?_) ⟨b_, pos_, i_1, zb, hzb, h, rfl⟩
 clear h
 clear hzb zb i_1 pos_ b_
 obtain ⟨b_, pos_, i_1, zb, hzb, h, rfl⟩ := hI
 cases k with
 | zero => cases h
 | succ k =>
 rw [strings_ToLower_l1] at h
 have hself : ∀ (b_ : (List UInt8)) (pos_ : Int) (i_1 : Int) (zb : Bool) (_ : zb = true → b_ = []), (strings_ToLower_l1 s_ K2_ k) b_ pos_ i_1 = some o → ∀ s, Weak 0 s ⟨(upd (upd (upd (upd (fun _ => none) 0 (some (S s_))) 7 (some (.c (.ref 0 2 0 0)))) 8 (some (I pos_))) 9 (some (I i_1))), (upd (upd (fun _ => none) 0 (some (.bld 76 zb 1 b_.length))) 1 (bufB zb 5 b_)), 2⟩ → (AThen (fun s' => ∃ s'' k', Weak 0 s' s'' ∧ k' < k + 1 ∧ (fun k s => ∃ (b_ : (List UInt8)), ∃ (pos_ : Int), ∃ (i_1 : Int), ∃ (zb : Bool), (zb = true → b_ = []) ∧ strings_ToLower_l1 s_ K2_ k b_ pos_ i_1 = some o ∧ s = ⟨(upd (upd (upd (upd (fun _ => none) 0 (some (S s_))) 7 (some (.c (.ref 0 2 0 0)))) 8 (some (I pos_))) 9 (some (I i_1))), (upd (upd (fun _ => none) 0 (some (.bld 76 zb 1 b_.length))) 1 (bufB zb 5 b_)), 2⟩) k' s'') Q) .normal s := fun b_ pos_ i_1 zb hzb h s hw => ⟨_, k, hw, Nat.lt_succ_self k, b_, pos_, i_1, zb, hzb, h, rfl⟩
 refine Sv.seq ?_
 refine Sv.seq ?_
 refine Sv.region ?_
 refine un (a1 rfl ?_)
 refine un (a1 rfl ?_)
 refine un (a1 (v := (I (s_.length : Int))) rfl ?_)
 refine un (a1 (v := (B (decide (i_1 < (s_.length : Int))))) rfl ?_)
 refine dnil ?_
 refine Sv.cond (b := decide (i_1 < (s_.length : Int))) rfl (fun hc7 => ?_) (fun hc7 => ?_)
 ·replace h := ifT hc7 h
  refine Sv.skip ?_
  refine Sv.seq ?_
  refine Sv.block ?_
  refine Sv.seq ?_
  refine Sv.region ?_
  refine un (a1 rfl ?_)
  refine un (a1 rfl ?_)
  obtain ⟨c_1, hx2, h⟩ := bnd h
  refine un (a1 (v := (.c (.val (.int .u8 (c_1.toNat : Int))))) (s_idxS rfl rfl hx2) ?_)
  refine un (a1 rfl ?_)
  refine dnil ?_
  refine Sv.seq ?_
  refine Sv.region ?_
  refine un (a1 rfl ?_)
  refine un (a1 (v := (B (decide (65 ≤ (c_1.toNat : Int))))) rfl ?_)
  refine un (a1 rfl ?_)
  refine gjoin 3 (d := 52) (v := (B ((decide (65 ≤ (c_1.toNat : Int))) && (decide ((c_1.toNat : Int) ≤ 90))))) (fun X hX => ?_) ?_
  ·refine split2 (fun hc8 => ?_) (fun hc8 => ?_)
   ·refine gt rfl (a1 rfl ?_)
    refine gt rfl (a1 (v := (B (decide ((c_1.toNat : Int) ≤ 90)))) rfl ?_)
    refine un (a1 (v := (B (decide ((c_1.toNat : Int) ≤ 90)))) rfl ?_)
    refine dnil ?_
    exact hX _ (.putEq (by rw [hc8]; rfl) (.skip _ _ (.skip _ _ (.putEq (by rw [hc8]) (.refl _)) rfl) rfl))
   ·refine gs rfl rfl ?_
    refine gs rfl rfl ?_
    refine un (a1 (v := (B false)) rfl ?_)
    refine dnil ?_
    exact hX _ (.putEq (by rw [hc8]; rfl) (.skip _ _ (.skip _ _ (.putEq (by rw [hc8]) (.refl _)) rfl) rfl))
  refine dnil ?_
  refine Sv.cond (b := ((decide (65 ≤ (c_1.toNat : Int))) && (decide ((c_1.toNat : Int) ≤ 90)))) rfl (fun hc9 => ?_) (fun hc9 => ?_)
  ·replace h := ifT hc9 h
   refine Sv.seq ?_
   refine Sv.region ?_
   refine un (a1 rfl ?_)
   refine un (a1 (v := (.c (.val (.int .u8 (wr .u8 ((c_1.toNat : Int) + 32)))))) rfl ?_)
   refine un (a1 rfl ?_)
   refine dnil ?_
   refine Sv.seq ?_
   refine Sv.seq ?_
   refine Sv.region ?_
   refine un (a1 rfl ?_)
   refine un (a1 rfl ?_)
   refine un (a1 (v := (B (decide (pos_ < i_1)))) rfl ?_)
   refine dnil ?_
   refine Sv.cond (b := decide (pos_ < i_1)) rfl (fun hc10 => ?_) (fun hc10 => ?_)
   ·replace h := ifT hc10 h
    refine Sv.region ?_
    refine un (a1 rfl ?_)
    refine un (a1 rfl ?_)
    refine un (a1 rfl ?_)
    obtain ⟨r_2, hx3, h⟩ := bnd h
    refine un (a1 (v := (S r_2)) (s_slStr rfl rfl rfl hx3) ?_)
    obtain ⟨r_3, hr3, h⟩ := bnd h
    refine un (ac_gen (bs := [0, 1]) («as» := [(.c (.ref 0 2 0 0)), (S r_2)]) (h2 := _) (h1 := (upd (upd (fun _ => none) 0 (some (.bld 76 zb 1 b_.length))) 1 (bufB zb 5 b_))) (sb_WriteString_ok (z := zb) (l := b_) hzb hr3) rfl (.cons (.c (.ref rfl (by decide))) (.cons (avAs_free rfl) .nil)) (hsub_refl _) (.cons rfl (.cons rfl (.nil _))) (fun h => by cases h) (by decide) (by decide) (.cons (.c (.ref rfl (by decide))) (.cons (avAs_free rfl) .nil)) (.buf (by decide) rfl (.box (by decide) rfl (.bld rfl (by decide)) .nil)) ?_)
    rintro _ _ _ hn ⟨z_2, hz_2, rfl, rfl, rfl⟩
    refine ⟨.inl rfl, (upd (upd (rem [0, 1] _) 0 (some (.bld 76 z_2 2 r_3.length))) 2 (bufB z_2 5 r_3)), fun hbd => (m3_cons (m3_buf rfl) (m3_cons (m3_box rfl rfl) (m3_rem (in_cons (by decide) (in_cons (by decide) (in_nil _))) (.cons (by decide) (.cons (by decide) .nil)) hbd))), (.tup [(I (r_2.length : Int)), (.c (.val .nilIface))]), 3, (by cases z_2 <;> rfl), rfl, ?_⟩
    refine dnil ?_
    exact Sv.weak (weak_canon [0, 2] rfl (by decide) (by decide) nlz (.cons rfl (avAs_free rfl) (.cons rfl (avAs_free rfl) (.cons rfl (.c (.ref rfl (by decide))) (.cons rfl (avAs_free rfl) .nil)))) (.buf (by decide) rfl (.box (by decide) rfl (.bld rfl (by decide)) .nil))) (strings_ToLower_j12_ok hz_2 h hself hK2 hr)
   ·replace h := ifF hc10 h
    refine Sv.skip ?_
    exact Sv.weak (weak_canon [0, 1] rfl (by decide) (by decide) nlz (.cons rfl (avAs_free rfl) (.cons rfl (avAs_free rfl) (.cons rfl (.c (.ref rfl (by decide))) (.cons rfl (avAs_free rfl) .nil)))) (.buf (by decide) rfl (.box (by decide) rfl (.bld rfl (by decide)) .nil))) (strings_ToLower_j12_ok hzb h hself hK2 hr)
  ·replace h := ifF hc9 h
   refine Sv.skip ?_
   exact Sv.weak (weak_canon [0, 1] rfl (by decide) (by decide) nlz (.cons rfl (avAs_free rfl) (.cons rfl (avAs_free rfl) (.cons rfl (.c (.ref rfl (by decide))) (.cons rfl (avAs_free rfl) .nil)))) (.buf (by decide) rfl (.box (by decide) rfl (.bld rfl (by decide)) .nil))) (strings_ToLower_j11_ok hzb h hself hK2 hr)
 ·replace h := ifF hc7 h
  refine Sv.exit ?_
  exact hK2 b_ pos_ zb hzb h _ (weak_canon [0, 1] rfl (by decide) (by decide) nlz (.cons rfl (avAs_free rfl) (.cons rfl (.c (.ref rfl (by decide))) (.cons rfl (avAs_free rfl) .nil))) (.buf (by decide) rfl (.box (by decide) rfl (.bld rfl (by decide)) .nil)))
abbrev strings_ToLower_q2 (mL : Int) (o : (List UInt8)) : AExit → St → Prop := AThen (Sv Tryz.prog (GG mL) 0 a113_c5 (Ends a113.results 0 (strings_ToLower_post o))) (Ends a113.results 0 (strings_ToLower_post o))
noncomputable def strings_ToLower_j13 (b_4 : (List UInt8)) : Option (List UInt8) :=
 some b_4
theorem strings_ToLower_j13_ok {mL : Int} {b_4 : (List UInt8)} {zb_4 : Bool} (hzb_4 : zb_4 = true → b_4 = []) {o : (List UInt8)} (h : strings_ToLower_j13 b_4 = some o) :
  Sv Tryz.prog (GG mL) 0 a113_c4 (strings_ToLower_q2 mL o) ⟨(upd (fun _ => none) 7 (some (.c (.ref 0 2 0 0)))), (upd (upd (fun _ => none) 0 (some (.bld 76 zb_4 1 b_4.length))) 1 (bufB zb_4 5 b_4)), 2⟩ := by
 unfold strings_ToLower_j13 at h
 refine Sv.seq ?_
 refine Sv.region ?_
 refine un (ac_gen (bs := [0, 1]) («as» := [(.c (.ref 0 2 0 0))]) (h2 := _) (h1 := (upd (upd (fun _ => none) 0 (some (.bld 76 zb_4 1 b_4.length))) 1 (bufB zb_4 5 b_4))) (sb_String_ok (z := zb_4) (l := b_4) hzb_4) rfl (.cons (.c (.ref rfl (by decide))) .nil) (hsub_refl _) (.cons rfl (.cons rfl (.nil _))) (fun h => by cases h) (by decide) (by decide) (.cons (.c (.ref rfl (by decide))) .nil) (.buf (by decide) rfl (.box (by decide) rfl (.bld rfl (by decide)) .nil)) ?_)
 rintro _ _ _ hn ⟨rfl, rfl, rfl⟩
 refine ⟨.inl rfl, (rem [0, 1] _), fun hbd => (m3_rem (in_cons (by decide) (in_cons (by decide) (in_nil _))) (.nil) hbd), (S b_4), 2, rfl, rfl, ?_⟩
 refine un (a1 rfl ?_)
 refine dnil ?_
 refine Sv.ret ?_
 replace h := Option.some.inj h
 subst h
 exact ⟨_, .refl _, _, rfl, ⟨upd (fun _ => none) 0 (some (S b_4)), (fun _ => none), 0⟩, (S b_4), weak_canon [] rfl List.nodup_nil (Nat.le_refl _) nlz (.cons rfl (avAs_free rfl) .nil) .nil, rfl, rfl, rfl, rfl⟩
/-- strings.ToLower -/
noncomputable def strings_ToLower (s_ : (List UInt8)) : Option (List UInt8) :=
 lim fun kk1 => strings_ToLower_l0 s_ (fun (isASCII : Bool) (hasUpper1 : Bool) => 
   if isASCII then
    if (!hasUpper1) then
     some s_
    else
     (sb_Grow ([] : List UInt8) (s_.length : Int)).bind fun r_ =>
     lim fun kk => strings_ToLower_l1 s_ (fun (b_1 : (List UInt8)) (pos_1 : Int) => 
       if decide (pos_1 < (s_.length : Int)) then
        (sub? s_ pos_1 (s_.length : Int)).bind fun r_4 =>
        (sb_WriteString b_1 r_4).bind fun r_5 =>
        strings_ToLower_j13 r_5
       else
        strings_ToLower_j13 b_1) kk r_ 0 0
   else
    none) kk1 false 0
theorem strings_ToLower_ok {mL : Int} {s_ : (List UInt8)} {r : (List UInt8)} (h : strings_ToLower s_ = some r) : CPure Tryz.prog (GG mL) 113 [(S s_)] (S r) := by
 refine acalls_of_sv hmix c113 (R := strings_ToLower_post r) ?_
 unfold strings_ToLower at h
 refine Sv.seq ?_
 refine Sv.region ?_
 refine un (a1 rfl ?_)
 refine dnil ?_
 refine Sv.seq ?_
 refine Sv.region ?_
 refine un (a1 rfl ?_)
 refine un (a1 rfl ?_)
 refine dnil ?_
 refine Sv.seq ?_
 refine Sv.seq ?_
 refine Sv.region ?_
 refine un (a1 rfl ?_)
 refine dnil ?_
 refine Sv.block ?_
 obtain ⟨kk1, h⟩ := lim_some h
 refine Sv.weak (weak_canon [] rfl (by decide) (by decide) nlz (.cons rfl (avAs_free rfl) (.cons rfl (avAs_free rfl) (.cons rfl (avAs_free rfl) (.cons rfl (avAs_free rfl) .nil)))) .nil) (strings_ToLower_l0_ok h ?_ (fun s hs => hs))
 ·intro isASCII hasUpper1 h _ hw1
  refine Sv.weak hw1 ?_
  refine Sv.seq ?_
  refine Sv.seq ?_
  refine Sv.region ?_
  refine un (a1 rfl ?_)
  refine dnil ?_
  refine Sv.cond (b := isASCII) rfl (fun hc5 => ?_) (fun hc5 => ?_)
  ·replace h := ifT hc5 h
   refine Sv.seq ?_
   refine Sv.seq ?_
   refine Sv.region ?_
   refine un (a1 rfl ?_)
   refine un (a1 (v := (B (!hasUpper1))) rfl ?_)
   refine dnil ?_
   refine Sv.cond (b := (!hasUpper1)) rfl (fun hc6 => ?_) (fun hc6 => ?_)
   ·replace h := ifT hc6 h
    refine Sv.seq ?_
    refine Sv.region ?_
    refine un (a1 rfl ?_)
    refine un (a1 rfl ?_)
    refine dnil ?_
    refine Sv.ret ?_
    replace h := Option.some.inj h
    subst h
    exact ⟨_, .refl _, _, rfl, ⟨upd (fun _ => none) 0 (some (S s_)), (fun _ => none), 0⟩, (S s_), weak_canon [] rfl List.nodup_nil (Nat.le_refl _) nlz (.cons rfl (avAs_free rfl) .nil) .nil, rfl, rfl, rfl, rfl⟩
   ·replace h := ifF hc6 h
    refine Sv.skip ?_
    refine Sv.seq ?_
    refine Sv.region ?_
    refine un (a2v (v := (.c (.ref 1 2 0 0))) (h' := upd _ 1 (some (.bld 76 true 0 ([] : List UInt8).length))) (n' := 2) rfl rfl (fun h => by cases h) ?_)
    refine dnil ?_
    refine Sv.seq ?_
    refine Sv.region ?_
    refine un (a1 rfl ?_)
    refine dnil ?_
    refine Sv.seq ?_
    refine Sv.region ?_
    refine un (a1 rfl ?_)
    refine un (a1 (v := (I (s_.length : Int))) rfl ?_)
    obtain ⟨r_, hr1, h⟩ := bnd h
    refine un (ac_gen (bs := [1, 0]) («as» := [(.c (.ref 1 2 0 0)), (I (s_.length : Int))]) (h2 := _) (h1 := (upd (fun _ => none) 1 (some (.bld 76 true 0 ([] : List UInt8).length)))) (sb_Grow_ok (z := true) (l := ([] : List UInt8)) (fun _ => rfl) hr1) rfl (.cons (.c (.ref rfl (by decide))) (.cons (avAs_free rfl) .nil)) (hsub_refl _) (.cons rfl (.nil _)) (fun h => by cases h) (by decide) (by decide) (.cons (.c (.ref rfl (by decide))) (.cons (avAs_free rfl) .nil)) (.nonB (by decide) (.box (by decide) rfl (.bldN (by decide)) .nil)) ?_)
    rintro _ _ _ hn ⟨z_, hz_, rfl, rfl, rfl⟩
    refine ⟨.inl rfl, (upd (upd (rem [1, 0] _) 1 (some (.bld 76 z_ 2 r_.length))) 2 (bufB z_ 5 r_)), fun hbd => (m3_cons (m3_buf rfl) (m3_cons (m3_box rfl rfl) (m3_rem (in_cons (by decide) (in_nil _)) (.cons (by decide) (.cons (by decide) .nil)) hbd))), (.tup []), 3, (by cases z_ <;> rfl), rfl, ?_⟩
    refine dnil ?_
    refine Sv.seq ?_
    refine Sv.seq ?_
    refine Sv.region ?_
    refine un (a1 rfl ?_)
    refine dnil ?_
    refine Sv.block ?_
    obtain ⟨kk, h⟩ := lim_some h
    refine Sv.weak (weak_canon [1, 2] rfl (by decide) (by decide) nlz (.cons rfl (avAs_free rfl) (.cons rfl (avAs_free rfl) (.cons rfl (.c (.ref rfl (by decide))) (.cons rfl (avAs_free rfl) .nil)))) (.buf (by decide) rfl (.box (by decide) rfl (.bld rfl (by decide)) .nil))) (strings_ToLower_l1_ok hz_ h ?_ (fun s hs => hs))
    ·intro b_1 pos_1 zb_1 hzb_1 h _ hw2
     refine Sv.weak hw2 ?_
     refine Sv.seq ?_
     refine Sv.seq ?_
     refine Sv.region ?_
     refine un (a1 rfl ?_)
     refine un (a1 rfl ?_)
     refine un (a1 (v := (I (s_.length : Int))) rfl ?_)
     refine un (a1 (v := (B (decide (pos_1 < (s_.length : Int))))) rfl ?_)
     refine dnil ?_
     refine Sv.cond (b := decide (pos_1 < (s_.length : Int))) rfl (fun hc11 => ?_) (fun hc11 => ?_)
     ·replace h := ifT hc11 h
      refine Sv.region ?_
      refine un (a1 rfl ?_)
      refine un (a1 rfl ?_)
      obtain ⟨r_4, hx4, h⟩ := bnd h
      refine un (a1 (v := (S r_4)) (s_slStr rfl rfl rfl hx4) ?_)
      obtain ⟨r_5, hr4, h⟩ := bnd h
      refine un (ac_gen (bs := [0, 1]) («as» := [(.c (.ref 0 2 0 0)), (S r_4)]) (h2 := _) (h1 := (upd (upd (fun _ => none) 0 (some (.bld 76 zb_1 1 b_1.length))) 1 (bufB zb_1 5 b_1))) (sb_WriteString_ok (z := zb_1) (l := b_1) hzb_1 hr4) rfl (.cons (.c (.ref rfl (by decide))) (.cons (avAs_free rfl) .nil)) (hsub_refl _) (.cons rfl (.cons rfl (.nil _))) (fun h => by cases h) (by decide) (by decide) (.cons (.c (.ref rfl (by decide))) (.cons (avAs_free rfl) .nil)) (.buf (by decide) rfl (.box (by decide) rfl (.bld rfl (by decide)) .nil)) ?_)
      rintro _ _ _ hn ⟨z_3, hz_3, rfl, rfl, rfl⟩
      refine ⟨.inl rfl, (upd (upd (rem [0, 1] _) 0 (some (.bld 76 z_3 2 r_5.length))) 2 (bufB z_3 5 r_5)), fun hbd => (m3_cons (m3_buf rfl) (m3_cons (m3_box rfl rfl) (m3_rem (in_cons (by decide) (in_cons (by decide) (in_nil _))) (.cons (by decide) (.cons (by decide) .nil)) hbd))), (.tup [(I (r_4.length : Int)), (.c (.val .nilIface))]), 3, (by cases z_3 <;> rfl), rfl, ?_⟩
      refine dnil ?_
      exact Sv.weak (weak_canon [0, 2] rfl (by decide) (by decide) nlz (.cons rfl (.c (.ref rfl (by decide))) .nil) (.buf (by decide) rfl (.box (by decide) rfl (.bld rfl (by decide)) .nil))) (strings_ToLower_j13_ok hz_3 h)
     ·replace h := ifF hc11 h
      refine Sv.skip ?_
      exact Sv.weak (weak_canon [0, 1] rfl (by decide) (by decide) nlz (.cons rfl (.c (.ref rfl (by decide))) .nil) (.buf (by decide) rfl (.box (by decide) rfl (.bld rfl (by decide)) .nil))) (strings_ToLower_j13_ok hzb_1 h)
  ·replace h := ifF hc5 h
   refine Sv.skip ?_
   refine Sv.seq ?_
   refine Sv.region ?_
   refine un (a1 rfl ?_)
   cases h
def a112 : AFunc := ⟨1, [(.tmp 2)], (.seq (.region [⟨(some 2), (.mov (kI 0)), none⟩])
 (.seq (.region [(mV 3 0), (oP 4 (.bslice 1 [(.val (.int .u8 0))] 1 [(0, (.tmp 3))])), (oP 5 (.ofBytes (.tmp 4))), (oP 6 (.call 113 [(.tmp 5)])), ⟨(some 7), (.call 58 [(.const (.c (.str [48, 49, 50, 51, 52, 53, 54, 55, 56, 57, 97, 98, 99, 100, 101, 102]))), (.tmp 6)]), none⟩, (mV 2 7)])
 .ret))⟩
set_option maxRecDepth 100000 in
theorem c112 : compFunc Tryz.prog 112 = some a112 := by kernel_rfl
def r4_units_fn1_post (r : Int) : AV → Heap → Nat → Prop := fun v h' n' => v = (I r) ∧ (h' = (fun _ => none)) ∧ n' = 0
/-- clerestory/clerestoryref4.units$1 -/
noncomputable def r4_units_fn1 (c_ : Int) : Option Int :=
 (strings_ToLower (byts [c_])).bind fun r_ =>
 (strings_Index [48, 49, 50, 51, 52, 53, 54, 55, 56, 57, 97, 98, 99, 100, 101, 102] r_).bind fun r_1 =>
 some r_1
theorem r4_units_fn1_ok {mL : Int} {c_ : Int} {r : Int} (h : r4_units_fn1 c_ = some r) : CPure Tryz.prog (GG mL) 112 [(.c (.val (.int .u8 c_)))] (I r) := by
 refine acalls_of_sv hmix c112 (R := r4_units_fn1_post r) ?_
 unfold r4_units_fn1 at h
 refine Sv.seq ?_
 refine Sv.region ?_
 refine un (a1 rfl ?_)
 refine dnil ?_
 refine Sv.seq ?_
 refine Sv.region ?_
 refine un (a1 rfl ?_)
 refine un (a2v (v := (lstV false 0 1 [c_].length)) (h' := upd _ 0 (lstB false 1 ([c_].map (eK .u8)))) (n' := 1) rfl rfl (fun h => by cases h) ?_)
 refine un (a1 (v := (S (byts [c_]))) (s_ofBytes (xs := [c_]) rfl (slc_lst rfl (List.length_map _).symm (map_nil_of (fun h => by cases h)))) ?_)
 obtain ⟨r_, hr1, h⟩ := bnd h
 refine un (ac_pure (strings_ToLower_ok hr1) rfl rfl rfl ?_)
 obtain ⟨r_1, hr2, h⟩ := bnd h
 refine un (ac_pure (strings_Index_ok hr2) rfl rfl rfl ?_)
 refine un (a1 rfl ?_)
 refine dnil ?_
 refine Sv.ret ?_
 replace h := Option.some.inj h
 subst h
 exact ⟨_, .refl _, _, rfl, ⟨upd (fun _ => none) 0 (some (I r_1)), (fun _ => none), 0⟩, (I r_1), weak_canon [] rfl List.nodup_nil (Nat.le_refl _) nlz (.cons rfl (avAs_free rfl) .nil) .nil, rfl, rfl, rfl, rfl⟩
def a91_c0 : ACode := (.cond (.tmp 60) (.seq (.region [⟨(some 2), (.mov (.const (.c (.ro true 2 [])))), none⟩, ⟨(some 3), (.mov (.const (.c (.val (.bool false))))), none⟩])
 .ret) .skip)
def a91_c2 : ACode := (.seq (.drawn (.fin [((mV 61 4), (0, 0)), ((mV 62 5), (0, 1)), ((mV 63 0), (0, 2)), ((mV 64 6), (0, 3)), (⟨(some 65), (.bin .add (.tmp 64) (kI 1)), none⟩, (0, 4)), ((oP 66 (.idxS (.tmp 63) (.tmp 65))), (0, 5)), ((mV 69 5), (0, 8)), ((mV 70 0), (0, 9)), ((mV 71 6), (0, 10)), (⟨(some 72), (.bin .add (.tmp 71) (kI 2)), none⟩, (0, 11)), ((oP 73 (.idxS (.tmp 70) (.tmp 72))), (0, 12)), ((oP 67 (.callv (.tmp 62) [(.tmp 66)])), (2, 6)), (⟨(some 68), (.bin .mul (kI 16) (.tmp 67)), none⟩, (0, 7)), ((oP 74 (.callv (.tmp 69) [(.tmp 73)])), (2, 13)), ((oP 75 (.bin .add (.tmp 68) (.tmp 74))), (0, 14)), ((oP 76 (.conv .u8 (.tmp 75))), (0, 15)), (⟨(some 77), (.build [(.val (.int .u8 0)), (.val (.bool false))] [(0, (1, (.tmp 76))), (1, (1, (.const (.c (.val (.bool true))))))]), none⟩, (0, 16)), ((oP 78 (.bslice 2 [(.val (.int .u8 0)), (.val (.bool false))] 1 [(0, (.tmp 77))])), (2, 17)), ((oP 79 (.app 2 2 (.tmp 61) (.tmp 78))), (2, 18)), ((mV 4 79), (0, 19))]))
 (.region [(mV 80 6), ⟨(some 81), (.bin .add (.tmp 80) (kI 2)), none⟩, (mV 6 81)]))
def a91_c1 : ACode := (.region [(mV 11 6), ⟨(some 12), (.bin .add (.tmp 11) (kI 1)), none⟩, (mV 6 12)])
def a91_c3 : ACode := (.seq (.seq (.region [(mV 7 6), (mV 8 0), (oP 9 (.lenS (.tmp 8))), (oP 10 (.bin .lss (.tmp 7) (.tmp 9)))])
 (.cond (.tmp 10) .skip (.exit 0)))
 (.seq (.block 1 (.seq (.seq (.region [(mV 13 0), (mV 14 6), (oP 15 (.idxS (.tmp 13) (.tmp 14))), ⟨(some 16), (.bin .neq (.tmp 15) (.const (.c (.val (.int .u8 37))))), none⟩])
 (.cond (.tmp 16) (.seq (.region [(mV 17 4), (mV 18 0), (mV 19 6), (oP 20 (.idxS (.tmp 18) (.tmp 19))), ⟨(some 21), (.build [(.val (.int .u8 0)), (.val (.bool false))] [(0, (1, (.tmp 20))), (1, (1, (.const (.c (.val (.bool false))))))]), none⟩, (oP 22 (.bslice 2 [(.val (.int .u8 0)), (.val (.bool false))] 1 [(0, (.tmp 21))])), (oP 23 (.app 2 2 (.tmp 17) (.tmp 22))), (mV 4 23)])
 (.exit 1)) .skip))
 (.seq (.seq (.region [(mV 24 6), ⟨(some 25), (.bin .add (.tmp 24) (kI 2)), none⟩, (mV 26 0), (oP 27 (.lenS (.tmp 26))), (oP 28 (.bin .geq (.tmp 25) (.tmp 27))), (mV 29 28), ⟨(some 30), (.mov (.tmp 0)), (some (29, false))⟩, ⟨(some 31), (.mov (.tmp 6)), (some (29, false))⟩, ⟨(some 32), (.bin .add (.tmp 31) (kI 1)), (some (29, false))⟩, ⟨(some 33), (.idxS (.tmp 30) (.tmp 32)), (some (29, false))⟩, ⟨(some 34), (.bin .gtr (.tmp 33) (.const (.c (.val (.int .u8 127))))), (some (29, false))⟩, ⟨(some 35), (.pick (.tmp 29) (.const (.c (.val (.bool true)))) (.tmp 34)), none⟩, (mV 36 35), ⟨(some 37), (.mov (.tmp 0)), (some (36, false))⟩, ⟨(some 38), (.mov (.tmp 6)), (some (36, false))⟩, ⟨(some 39), (.bin .add (.tmp 38) (kI 2)), (some (36, false))⟩, ⟨(some 40), (.idxS (.tmp 37) (.tmp 39)), (some (36, false))⟩, ⟨(some 41), (.bin .gtr (.tmp 40) (.const (.c (.val (.int .u8 127))))), (some (36, false))⟩, ⟨(some 42), (.pick (.tmp 36) (.const (.c (.val (.bool true)))) (.tmp 41)), none⟩, (mV 43 42), ⟨(some 44), (.mov (.tmp 5)), (some (43, false))⟩, ⟨(some 45), (.mov (.tmp 0)), (some (43, false))⟩, ⟨(some 46), (.mov (.tmp 6)), (some (43, false))⟩, ⟨(some 47), (.bin .add (.tmp 46) (kI 1)), (some (43, false))⟩, ⟨(some 48), (.idxS (.tmp 45) (.tmp 47)), (some (43, false))⟩, ⟨(some 49), (.callv (.tmp 44) [(.tmp 48)]), (some (43, false))⟩, ⟨(some 50), (.bin .lss (.tmp 49) (kI 0)), (some (43, false))⟩, ⟨(some 51), (.pick (.tmp 43) (.const (.c (.val (.bool true)))) (.tmp 50)), none⟩, (mV 52 51), ⟨(some 53), (.mov (.tmp 5)), (some (52, false))⟩, ⟨(some 54), (.mov (.tmp 0)), (some (52, false))⟩, ⟨(some 55), (.mov (.tmp 6)), (some (52, false))⟩, ⟨(some 56), (.bin .add (.tmp 55) (kI 2)), (some (52, false))⟩, ⟨(some 57), (.idxS (.tmp 54) (.tmp 56)), (some (52, false))⟩, ⟨(some 58), (.callv (.tmp 53) [(.tmp 57)]), (some (52, false))⟩, ⟨(some 59), (.bin .lss (.tmp 58) (kI 0)), (some (52, false))⟩, ⟨(some 60), (.pick (.tmp 52) (.const (.c (.val (.bool true)))) (.tmp 59)), none⟩])
 a91_c0)
 a91_c2)))
 a91_c1))
def a91 : AFunc := ⟨1, [(.tmp 2), (.tmp 3)], (.seq (.region [⟨(some 2), (.mov (.const (.c (.ro true 2 [])))), none⟩, ⟨(some 3), (.mov (.const (.c (.val (.bool false))))), none⟩])
 (.seq (.region [⟨(some 4), (.mov (.const (.c (.ro true 2 [])))), none⟩])
 (.seq (.region [⟨(some 5), (.mov (.const (.c (.fn (.func 112) [] [])))), none⟩])
 (.seq (.seq (.region [⟨(some 6), (.mov (kI 0)), none⟩])
 (.block 0 (.loop a91_c3)))
 (.seq (.region [(mV 82 4), (mV 2 82), ⟨(some 3), (.mov (.const (.c (.val (.bool true))))), none⟩])
 .ret)))))⟩
set_option maxRecDepth 100000 in
theorem c91 : compFunc Tryz.prog 91 = some a91 := by kernel_rfl
def r4_units_post (r : ((List Tunit) × Bool)) : AV → Heap → Nat → Prop := fun v h' n' => ∃ z0 : Bool, (z0 = true → r.1 = []) ∧ v = (.tup [(lstV z0 0 2 r.1.length), (B r.2)]) ∧ (h' = (upd (fun _ => none) 0 (lstB z0 2 (r.1.map e_Tunit)))) ∧ n' = 1
noncomputable def r4_units_j11 (s_ : (List UInt8)) (self : (List Tunit) → Int → Option ((List Tunit) × Bool)) (K0_ : (List Tunit) → Option ((List Tunit) × Bool)) (out2 : (List Tunit)) (k_1 : Int) : Option ((List Tunit) × Bool) :=
 self out2 (wi (k_1 + 1))
theorem r4_units_j11_ok {mL : Int} {Q : AExit → St → Prop} {s_ : (List UInt8)} {self : (List Tunit) → Int → Option ((List Tunit) × Bool)} {K0_ : (List Tunit) → Option ((List Tunit) × Bool)} {out2 : (List Tunit)} {k_1 : Int} {zout2 : Bool} (hzout2 : zout2 = true → out2 = []) {o : ((List Tunit) × Bool)} (h : r4_units_j11 s_ self K0_ out2 k_1 = some o)
  (hself : ∀ (out : (List Tunit)) (k_ : Int) (zout : Bool) (_ : zout = true → out = []), self out k_ = some o → ∀ s, Weak 0 s ⟨(upd (upd (upd (upd (fun _ => none) 0 (some (S s_))) 4 (some (lstV zout 0 2 out.length))) 5 (some (.c (.fn (.func 112) [] [])))) 6 (some (I k_))), (upd (fun _ => none) 0 (lstB zout 2 (out.map e_Tunit))), 1⟩ → (Q) .normal s)
  (hK0 : ∀ (out1 : (List Tunit)) (zout1 : Bool) (_ : zout1 = true → out1 = []), K0_ out1 = some o → ∀ s, Weak 0 s ⟨(upd (fun _ => none) 4 (some (lstV zout1 0 2 out1.length))), (upd (fun _ => none) 0 (lstB zout1 2 (out1.map e_Tunit))), 1⟩ → Q (.exit 0) s)
  (hr : ∀ s, Ends a91.results 0 (r4_units_post o) .ret s → Q .ret s) :
  Sv Tryz.prog (GG mL) 0 a91_c1 Q ⟨(upd (upd (upd (upd (fun _ => none) 0 (some (S s_))) 4 (some (lstV zout2 0 2 out2.length))) 5 (some (.c (.fn (.func 112) [] [])))) 6 (some (I k_1))), (upd (fun _ => none) 0 (lstB zout2 2 (out2.map e_Tunit))), 1⟩ := by
 unfold r4_units_j11 at h
 refine Sv.region ?_
 refine un (a1 rfl ?_)
 refine un (a1 (v := (I (wi (k_1 + 1)))) rfl ?_)
 refine un (a1 rfl ?_)
 refine dnil ?_
 exact hself out2 (wi (k_1 + 1)) zout2 hzout2 h _ (weak_canon [0] rfl (by decide) (by decide) nlz (.cons rfl (avAs_free rfl) (.cons rfl (avAs_free rfl) (.cons rfl (.c (lstC_ren rfl (by decide))) (.cons rfl (avAs_free rfl) .nil)))) (.row (by decide) rfl (fr_map fun _ => rfl) .nil))
abbrev r4_units_q0 (mL : Int) (Q : AExit → St → Prop) : AExit → St → Prop := AThen (Sv Tryz.prog (GG mL) 0 a91_c1 Q) Q
abbrev r4_units_q1 (mL : Int) (Q : AExit → St → Prop) : AExit → St → Prop := ABlock 1 (r4_units_q0 mL Q)
abbrev r4_units_q2 (mL : Int) (Q : AExit → St → Prop) : AExit → St → Prop := AThen (Sv Tryz.prog (GG mL) 0 a91_c2 (r4_units_q1 mL Q)) (r4_units_q1 mL Q)
noncomputable def r4_units_j12 (s_ : (List UInt8)) (k_ : Int) (self : (List Tunit) → Int → Option ((List Tunit) × Bool)) (K0_ : (List Tunit) → Option ((List Tunit) × Bool)) (out3 : (List Tunit)) (v60 : Bool) : Option ((List Tunit) × Bool) :=
 if v60 then
  some (([] : List Tunit), false)
 else
  (at? s_ (wi (k_ + 1))).bind fun c_2 =>
  (at? s_ (wi (k_ + 2))).bind fun c_3 =>
  (r4_units_fn1 (c_2.toNat : Int)).bind fun r_1 =>
  (r4_units_fn1 (c_3.toNat : Int)).bind fun r_2 =>
  (app? 2 out3 [(⟨(wr .u8 (wi ((wi (16 * r_1)) + r_2))), true⟩ : Tunit)]).bind fun r_3 =>
  r4_units_j11 s_ self K0_ r_3 (wi (k_ + 2))
theorem r4_units_j12_ok {mL : Int} {Q : AExit → St → Prop} {s_ : (List UInt8)} {k_ : Int} {self : (List Tunit) → Int → Option ((List Tunit) × Bool)} {K0_ : (List Tunit) → Option ((List Tunit) × Bool)} {out3 : (List Tunit)} {v60 : Bool} {zout3 : Bool} (hzout3 : zout3 = true → out3 = []) {o : ((List Tunit) × Bool)} (h : r4_units_j12 s_ k_ self K0_ out3 v60 = some o)
  (hself : ∀ (out : (List Tunit)) (k_ : Int) (zout : Bool) (_ : zout = true → out = []), self out k_ = some o → ∀ s, Weak 0 s ⟨(upd (upd (upd (upd (fun _ => none) 0 (some (S s_))) 4 (some (lstV zout 0 2 out.length))) 5 (some (.c (.fn (.func 112) [] [])))) 6 (some (I k_))), (upd (fun _ => none) 0 (lstB zout 2 (out.map e_Tunit))), 1⟩ → (Q) .normal s)
  (hK0 : ∀ (out1 : (List Tunit)) (zout1 : Bool) (_ : zout1 = true → out1 = []), K0_ out1 = some o → ∀ s, Weak 0 s ⟨(upd (fun _ => none) 4 (some (lstV zout1 0 2 out1.length))), (upd (fun _ => none) 0 (lstB zout1 2 (out1.map e_Tunit))), 1⟩ → Q (.exit 0) s)
  (hr : ∀ s, Ends a91.results 0 (r4_units_post o) .ret s → Q .ret s) :
  Sv Tryz.prog (GG mL) 0 a91_c0 (r4_units_q2 mL Q) ⟨(upd (upd (upd (upd (upd (fun _ => none) 0 (some (S s_))) 4 (some (lstV zout3 0 2 out3.length))) 5 (some (.c (.fn (.func 112) [] [])))) 6 (some (I k_))) 60 (some (B v60))), (upd (fun _ => none) 0 (lstB zout3 2 (out3.map e_Tunit))), 1⟩ := by
 unfold r4_units_j12 at h
 refine Sv.cond (b := v60) rfl (fun hc3 => ?_) (fun hc3 => ?_)
 ·replace h := ifT hc3 h
  refine Sv.seq ?_
  refine Sv.region ?_
  refine un (a1 rfl ?_)
  refine un (a1 rfl ?_)
  refine dnil ?_
  refine Sv.ret ?_
  replace h := Option.some.inj h
  subst h
  exact hr _ ⟨_, .refl _, _, rfl, ⟨upd (fun _ => none) 0 (some (.tup [(lstV true 0 2 ([] : List Tunit).length), (B false)])), (upd (fun _ => none) 0 (lstB true 2 (([] : List Tunit).map e_Tunit))), 1⟩, (.tup [(lstV true 0 2 ([] : List Tunit).length), (B false)]), weak_canon2 [1000] [0] (by decide) (by decide) nlz (.cons (by decide) .nil) (.cons rfl (avAs_tup (.cons (.c (.same rfl)) (.cons (avAs_free rfl) .nil))) .nil) (.non (by decide) .nil), rfl, true, (fun _ => rfl), rfl, rfl, rfl⟩
 ·replace h := ifF hc3 h
  refine Sv.skip ?_
  refine Sv.seq ?_
  refine Sv.drawn ?_
  refine un (a1 rfl ?_)
  refine un (a1 rfl ?_)
  refine un (a1 rfl ?_)
  refine un (a1 rfl ?_)
  refine un (a1 (v := (I (wi (k_ + 1)))) rfl ?_)
  obtain ⟨c_2, hx3, h⟩ := bnd h
  refine un (a1 (v := (.c (.val (.int .u8 (c_2.toNat : Int))))) (s_idxS rfl rfl hx3) ?_)
  refine un (a1 rfl ?_)
  refine un (a1 rfl ?_)
  refine un (a1 rfl ?_)
  refine un (a1 (v := (I (wi (k_ + 2)))) rfl ?_)
  obtain ⟨c_3, hx4, h⟩ := bnd h
  refine un (a1 (v := (.c (.val (.int .u8 (c_3.toNat : Int))))) (s_idxS rfl rfl hx4) ?_)
  obtain ⟨r_1, hr2, h⟩ := bnd h
  refine un (acv_gen (bs := []) («as» := [(.c (.val (.int .u8 (c_2.toNat : Int))))]) (h2 := _) (h1 := (fun _ => none)) rfl (by kernel_rfl) (r4_units_fn1_ok hr2) rfl (.cons (avAs_free rfl) .nil) (hsub_refl _) (.nil _) (fun _ => rfl) (by decide) (by decide) (.cons (avAs_free rfl) .nil) .nil ?_)
  rintro _ _ _ hn ⟨rfl, rfl, rfl⟩
  refine ⟨.inl rfl, (rem [] _), fun hbd => (m3_rem (in_nil _) (.nil) hbd), (I r_1), 1, rfl, rfl, ?_⟩
  refine un (a1 (v := (I (wi (16 * r_1)))) rfl ?_)
  obtain ⟨r_2, hr3, h⟩ := bnd h
  refine un (acv_gen (bs := []) («as» := [(.c (.val (.int .u8 (c_3.toNat : Int))))]) (h2 := _) (h1 := (fun _ => none)) rfl (by kernel_rfl) (r4_units_fn1_ok hr3) rfl (.cons (avAs_free rfl) .nil) (hsub_refl _) (.nil _) (fun _ => rfl) (by decide) (by decide) (.cons (avAs_free rfl) .nil) .nil ?_)
  rintro _ _ _ hn ⟨rfl, rfl, rfl⟩
  refine ⟨.inl rfl, (rem [] _), fun hbd => (m3_rem (in_nil _) (.nil) hbd), (I r_2), 1, rfl, rfl, ?_⟩
  refine un (a1 (v := (I (wi ((wi (16 * r_1)) + r_2)))) rfl ?_)
  refine un (a1 (v := (.c (.val (.int .u8 (wr .u8 (wi ((wi (16 * r_1)) + r_2))))))) rfl ?_)
  refine un (a1 (v := (.agg [.val (.int .u8 (wr .u8 (wi ((wi (16 * r_1)) + r_2)))), cB true])) rfl ?_)
  refine un (a2v (v := (lstV false 1 2 [(⟨(wr .u8 (wi ((wi (16 * r_1)) + r_2))), true⟩ : Tunit)].length)) (h' := upd _ 1 (lstB false 2 ([(⟨(wr .u8 (wi ((wi (16 * r_1)) + r_2))), true⟩ : Tunit)].map e_Tunit))) (n' := 2) rfl rfl (fun h => by cases h) ?_)
  obtain ⟨r_3, hr4, h⟩ := bnd h
  have hz2 : (zout3 && [(⟨(wr .u8 (wi ((wi (16 * r_1)) + r_2))), true⟩ : Tunit)].isEmpty) = true → r_3 = [] := app_nil (z := zout3) (ys := [(⟨(wr .u8 (wi ((wi (16 * r_1)) + r_2))), true⟩ : Tunit)]) hzout3 hr4
  refine un (a2v rfl (s_app (xs := out3) (ys := [(⟨(wr .u8 (wi ((wi (16 * r_1)) + r_2))), true⟩ : Tunit)]) (e := e_Tunit) (z := zout3) (b := 0) rfl rfl hzout3 rfl rfl (slc_lst rfl (List.length_map _).symm (map_nil_of (fun h => by cases h))) hr4) (fun h => by cases h) ?_)
  refine un (a1 rfl ?_)
  refine dnil ?_
  refine Sv.region ?_
  refine un (a1 rfl ?_)
  refine un (a1 (v := (I (wi (k_ + 2)))) rfl ?_)
  refine un (a1 rfl ?_)
  refine dnil ?_
  exact Sv.weak (weak_canon [2] rfl (by decide) (by decide) nlz (.cons rfl (avAs_free rfl) (.cons rfl (avAs_free rfl) (.cons rfl (.c (lstC_ren rfl (by decide))) (.cons rfl (avAs_free rfl) .nil)))) (.row (by decide) rfl (fr_map fun _ => rfl) .nil)) (r4_units_j11_ok hz2 h hself hK0 hr)
noncomputable def r4_units_l0 (s_ : (List UInt8)) (K0_ : (List Tunit) → Option ((List Tunit) × Bool)) : Nat → (List Tunit) → Int → Option ((List Tunit) × Bool)
 | 0, _, _ => none
 | k + 1, out, k_ =>
  if decide (k_ < (s_.length : Int)) then
   (at? s_ k_).bind fun c_ =>
   if (!decide ((c_.toNat : Int) = 37)) then
    (at? s_ k_).bind fun c_1 =>
    (app? 2 out [(⟨(c_1.toNat : Int), false⟩ : Tunit)]).bind fun r_ =>
    r4_units_j11 s_ (r4_units_l0 s_ K0_ k) K0_ r_ k_
   else
    if decide ((s_.length : Int) ≤ (wi (k_ + 2))) then
     r4_units_j12 s_ k_ (r4_units_l0 s_ K0_ k) K0_ out true
    else
     (at? s_ (wi (k_ + 1))).bind fun c_4 =>
     if decide (127 < (c_4.toNat : Int)) then
      r4_units_j12 s_ k_ (r4_units_l0 s_ K0_ k) K0_ out true
     else
      (at? s_ (wi (k_ + 2))).bind fun c_5 =>
      if decide (127 < (c_5.toNat : Int)) then
       r4_units_j12 s_ k_ (r4_units_l0 s_ K0_ k) K0_ out true
      else
       (at? s_ (wi (k_ + 1))).bind fun c_6 =>
       (r4_units_fn1 (c_6.toNat : Int)).bind fun r_4 =>
       if decide (r_4 < 0) then
        r4_units_j12 s_ k_ (r4_units_l0 s_ K0_ k) K0_ out true
       else
        (at? s_ (wi (k_ + 2))).bind fun c_7 =>
        (r4_units_fn1 (c_7.toNat : Int)).bind fun r_5 =>
        r4_units_j12 s_ k_ (r4_units_l0 s_ K0_ k) K0_ out (decide (r_5 < 0))
  else
   K0_ out
theorem r4_units_l0_ok {mL : Int} {Q : AExit → St → Prop} {s_ : (List UInt8)} {K0_ : (List Tunit) → Option ((List Tunit) × Bool)} {k : Nat} {out : (List Tunit)} {k_ : Int} {zout : Bool} (hzout : zout = true → out = []) {o : ((List Tunit) × Bool)} (h : r4_units_l0 s_ K0_ k out k_ = some o)
  (hK0 : ∀ (out1 : (List Tunit)) (zout1 : Bool) (_ : zout1 = true → out1 = []), K0_ out1 = some o → ∀ s, Weak 0 s ⟨(upd (fun _ => none) 4 (some (lstV zout1 0 2 out1.length))), (upd (fun _ => none) 0 (lstB zout1 2 (out1.map e_Tunit))), 1⟩ → Q (.exit 0) s)
  (hr : ∀ s, Ends a91.results 0 (r4_units_post o) .ret s → Q .ret s) :
  Sv Tryz.prog (GG mL) 0 (.loop a91_c3) Q ⟨(upd (upd (upd (upd (fun _ => none) 0 (some (S s_))) 4 (some (lstV zout 0 2 out.length))) 5 (some (.c (.fn (.func 112) [] [])))) 6 (some (I k_))), (upd (fun _ => none) 0 (lstB zout 2 (out.map e_Tunit))), 1⟩ := by
 refine Sv.loop (I := fun k s => ∃ (out : (List Tunit)), ∃ (k_ : Int), ∃ (zout : Bool), (zout = true → out = []) ∧ r4_units_l0 s_ K0_ k out k_ = some o ∧ s = ⟨(upd (upd (upd (upd (fun _ => none) 0 (some (S s_))) 4 (some (lstV zout 0 2 out.length))) 5 (some (.c (.fn (.func 112) [] [])))) 6 (some (I k_))), (upd (fun _ => none) 0 (lstB zout 2 (out.map e_Tunit))), 1⟩) (fun k s hI => ?_) ⟨out, k_, zout, hzout, h, rfl⟩
 clear h
 clear hzout zout k_ out
 obtain ⟨out, k_, zout, hzout, h, rfl⟩ := hI
 cases k with
 | zero => cases h
 | succ k =>
 rw [r4_units_l0] at h
 have hself : ∀ (out : (List Tunit)) (k_ : Int) (zout : Bool) (_ : zout = true → out = []), (r4_units_l0 s_ K0_ k) out k_ = some o → ∀ s, Weak 0 s ⟨(upd (upd (upd (upd (fun _ => none) 0 (some (S s_))) 4 (some (lstV zout 0 2 out.length))) 5 (some (.c (.fn (.func 112) [] [])))) 6 (some (I k_))), (upd (fun _ => none) 0 (lstB zout 2 (out.map e_Tunit))), 1⟩ → (AThen (fun s' => ∃ s'' k', Weak 0 s' s'' ∧ k' < k + 1 ∧ (fun k s => ∃ (out : (List Tunit)), ∃ (k_ : Int), ∃ (zout : Bool), (zout = true → out = []) ∧ r4_units_l0 s_ K0_ k out k_ = some o ∧ s = ⟨(upd (upd (upd (upd (fun _ => none) 0 (some (S s_))) 4 (some (lstV zout 0 2 out.length))) 5 (some (.c (.fn (.func 112) [] [])))) 6 (some (I k_))), (upd (fun _ => none) 0 (lstB zout 2 (out.map e_Tunit))), 1⟩) k' s'') Q) .normal s := fun out k_ zout hzout h s hw => ⟨_, k, hw, Nat.lt_succ_self k, out, k_, zout, hzout, h, rfl⟩
 refine Sv.seq ?_
 refine Sv.seq ?_
 refine Sv.region ?_
 refine un (a1 rfl ?_)
 refine un (a1 rfl ?_)
 refine un (a1 (v := (I (s_.length : Int))) rfl ?_)
 refine un (a1 (v := (B (decide (k_ < (s_.length : Int))))) rfl ?_)
 refine dnil ?_
 refine Sv.cond (b := decide (k_ < (s_.length : Int))) rfl (fun hc1 => ?_) (fun hc1 => ?_)
 ·replace h := ifT hc1 h
  refine Sv.skip ?_
  refine Sv.seq ?_
  refine Sv.block ?_
  refine Sv.seq ?_
  refine Sv.seq ?_
  refine Sv.region ?_
  refine un (a1 rfl ?_)
  refine un (a1 rfl ?_)
  obtain ⟨c_, hx1, h⟩ := bnd h
  refine un (a1 (v := (.c (.val (.int .u8 (c_.toNat : Int))))) (s_idxS rfl rfl hx1) ?_)
  refine un (a1 (v := (B (!decide ((c_.toNat : Int) = 37)))) rfl ?_)
  refine dnil ?_
  refine Sv.cond (b := (!decide ((c_.toNat : Int) = 37))) rfl (fun hc2 => ?_) (fun hc2 => ?_)
  ·replace h := ifT hc2 h
   refine Sv.seq ?_
   refine Sv.region ?_
   refine un (a1 rfl ?_)
   refine un (a1 rfl ?_)
   refine un (a1 rfl ?_)
   obtain ⟨c_1, hx2, h⟩ := bnd h
   refine un (a1 (v := (.c (.val (.int .u8 (c_1.toNat : Int))))) (s_idxS rfl rfl hx2) ?_)
   refine un (a1 (v := (.agg [.val (.int .u8 (c_1.toNat : Int)), cB false])) rfl ?_)
   refine un (a2v (v := (lstV false 1 2 [(⟨(c_1.toNat : Int), false⟩ : Tunit)].length)) (h' := upd _ 1 (lstB false 2 ([(⟨(c_1.toNat : Int), false⟩ : Tunit)].map e_Tunit))) (n' := 2) rfl rfl (fun h => by cases h) ?_)
   obtain ⟨r_, hr1, h⟩ := bnd h
   have hz1 : (zout && [(⟨(c_1.toNat : Int), false⟩ : Tunit)].isEmpty) = true → r_ = [] := app_nil (z := zout) (ys := [(⟨(c_1.toNat : Int), false⟩ : Tunit)]) hzout hr1
   refine un (a2v rfl (s_app (xs := out) (ys := [(⟨(c_1.toNat : Int), false⟩ : Tunit)]) (e := e_Tunit) (z := zout) (b := 0) rfl rfl hzout rfl rfl (slc_lst rfl (List.length_map _).symm (map_nil_of (fun h => by cases h))) hr1) (fun h => by cases h) ?_)
   refine un (a1 rfl ?_)
   refine dnil ?_
   refine Sv.exit ?_
   exact Sv.weak (weak_canon [2] rfl (by decide) (by decide) nlz (.cons rfl (avAs_free rfl) (.cons rfl (avAs_free rfl) (.cons rfl (.c (lstC_ren rfl (by decide))) (.cons rfl (avAs_free rfl) .nil)))) (.row (by decide) rfl (fr_map fun _ => rfl) .nil)) (r4_units_j11_ok hz1 h hself hK0 hr)
  ·replace h := ifF hc2 h
   refine Sv.skip ?_
   refine Sv.seq ?_
   refine Sv.seq ?_
   refine Sv.region ?_
   refine un (a1 rfl ?_)
   refine un (a1 (v := (I (wi (k_ + 2)))) rfl ?_)
   refine un (a1 rfl ?_)
   refine un (a1 (v := (I (s_.length : Int))) rfl ?_)
   refine un (a1 (v := (B (decide ((s_.length : Int) ≤ (wi (k_ + 2)))))) rfl ?_)
   refine un (a1 rfl ?_)
   refine split2 (fun hc4 => ?_) (fun hc4 => ?_)
   ·replace h := ifT hc4 h
    refine gs rfl rfl ?_
    refine gs rfl rfl ?_
    refine gs rfl rfl ?_
    refine gs rfl rfl ?_
    refine gs rfl rfl ?_
    refine un (a1 (v := (B true)) rfl ?_)
    refine un (a1 rfl ?_)
    refine gs rfl rfl ?_
    refine gs rfl rfl ?_
    refine gs rfl rfl ?_
    refine gs rfl rfl ?_
    refine gs rfl rfl ?_
    refine un (a1 (v := (B true)) rfl ?_)
    refine un (a1 rfl ?_)
    refine gs rfl rfl ?_
    refine gs rfl rfl ?_
    refine gs rfl rfl ?_
    refine gs rfl rfl ?_
    refine gs rfl rfl ?_
    refine gs rfl rfl ?_
    refine gs rfl rfl ?_
    refine un (a1 (v := (B true)) rfl ?_)
    refine un (a1 rfl ?_)
    refine gs rfl rfl ?_
    refine gs rfl rfl ?_
    refine gs rfl rfl ?_
    refine gs rfl rfl ?_
    refine gs rfl rfl ?_
    refine gs rfl rfl ?_
    refine gs rfl rfl ?_
    refine un (a1 (v := (B true)) rfl ?_)
    refine dnil ?_
    exact Sv.weak (weak_canon [0] rfl (by decide) (by decide) nlz (.cons rfl (avAs_free rfl) (.cons rfl (avAs_free rfl) (.cons rfl (avAs_free rfl) (.cons rfl (.c (lstC_ren rfl (by decide))) (.cons rfl (avAs_free rfl) .nil))))) (.row (by decide) rfl (fr_map fun _ => rfl) .nil)) (r4_units_j12_ok hzout h hself hK0 hr)
   ·replace h := ifF hc4 h
    refine gt rfl (a1 rfl ?_)
    refine gt rfl (a1 rfl ?_)
    refine gt rfl (a1 (v := (I (wi (k_ + 1)))) rfl ?_)
    obtain ⟨c_4, hx5, h⟩ := bnd h
    refine gt rfl (a1 (v := (.c (.val (.int .u8 (c_4.toNat : Int))))) (s_idxS rfl rfl hx5) ?_)
    refine gt rfl (a1 (v := (B (decide (127 < (c_4.toNat : Int))))) rfl ?_)
    refine un (a1 (v := (B (decide (127 < (c_4.toNat : Int))))) rfl ?_)
    refine un (a1 rfl ?_)
    refine split2 (fun hc5 => ?_) (fun hc5 => ?_)
    ·replace h := ifT hc5 h
     refine gs rfl rfl ?_
     refine gs rfl rfl ?_
     refine gs rfl rfl ?_
     refine gs rfl rfl ?_
     refine gs rfl rfl ?_
     refine un (a1 (v := (B true)) rfl ?_)
     refine un (a1 rfl ?_)
     refine gs rfl rfl ?_
     refine gs rfl rfl ?_
     refine gs rfl rfl ?_
     refine gs rfl rfl ?_
     refine gs rfl rfl ?_
     refine gs rfl rfl ?_
     refine gs rfl rfl ?_
     refine un (a1 (v := (B true)) rfl ?_)
     refine un (a1 rfl ?_)
     refine gs rfl rfl ?_
     refine gs rfl rfl ?_
     refine gs rfl rfl ?_
     refine gs rfl rfl ?_
     refine gs rfl rfl ?_
     refine gs rfl rfl ?_
     refine gs rfl rfl ?_
     refine un (a1 (v := (B true)) rfl ?_)
     refine dnil ?_
     exact Sv.weak (weak_canon [0] rfl (by decide) (by decide) nlz (.cons rfl (avAs_free rfl) (.cons rfl (avAs_free rfl) (.cons rfl (avAs_free rfl) (.cons rfl (.c (lstC_ren rfl (by decide))) (.cons rfl (avAs_free rfl) .nil))))) (.row (by decide) rfl (fr_map fun _ => rfl) .nil)) (r4_units_j12_ok hzout h hself hK0 hr)
    ·replace h := ifF hc5 h
     refine gt rfl (a1 rfl ?_)
     refine gt rfl (a1 rfl ?_)
     refine gt rfl (a1 (v := (I (wi (k_ + 2)))) rfl ?_)
     obtain ⟨c_5, hx6, h⟩ := bnd h
     refine gt rfl (a1 (v := (.c (.val (.int .u8 (c_5.toNat : Int))))) (s_idxS rfl rfl hx6) ?_)
     refine gt rfl (a1 (v := (B (decide (127 < (c_5.toNat : Int))))) rfl ?_)
     refine un (a1 (v := (B (decide (127 < (c_5.toNat : Int))))) rfl ?_)
     refine un (a1 rfl ?_)
     refine split2 (fun hc6 => ?_) (fun hc6 => ?_)
     ·replace h := ifT hc6 h
      refine gs rfl rfl ?_
      refine gs rfl rfl ?_
      refine gs rfl rfl ?_
      refine gs rfl rfl ?_
      refine gs rfl rfl ?_
      refine gs rfl rfl ?_
      refine gs rfl rfl ?_
      refine un (a1 (v := (B true)) rfl ?_)
      refine un (a1 rfl ?_)
      refine gs rfl rfl ?_
      refine gs rfl rfl ?_
      refine gs rfl rfl ?_
      refine gs rfl rfl ?_
      refine gs rfl rfl ?_
      refine gs rfl rfl ?_
      refine gs rfl rfl ?_
      refine un (a1 (v := (B true)) rfl ?_)
      refine dnil ?_
      exact Sv.weak (weak_canon [0] rfl (by decide) (by decide) nlz (.cons rfl (avAs_free rfl) (.cons rfl (avAs_free rfl) (.cons rfl (avAs_free rfl) (.cons rfl (.c (lstC_ren rfl (by decide))) (.cons rfl (avAs_free rfl) .nil))))) (.row (by decide) rfl (fr_map fun _ => rfl) .nil)) (r4_units_j12_ok hzout h hself hK0 hr)
     ·replace h := ifF hc6 h
      refine gt rfl (a1 rfl ?_)
      refine gt rfl (a1 rfl ?_)
      refine gt rfl (a1 rfl ?_)
      refine gt rfl (a1 (v := (I (wi (k_ + 1)))) rfl ?_)
      obtain ⟨c_6, hx7, h⟩ := bnd h
      refine gt rfl (a1 (v := (.c (.val (.int .u8 (c_6.toNat : Int))))) (s_idxS rfl rfl hx7) ?_)
      obtain ⟨r_4, hr5, h⟩ := bnd h
      refine gt rfl (acv_gen (bs := []) («as» := [(.c (.val (.int .u8 (c_6.toNat : Int))))]) (h2 := _) (h1 := (fun _ => none)) rfl (by kernel_rfl) (r4_units_fn1_ok hr5) rfl (.cons (avAs_free rfl) .nil) (hsub_refl _) (.nil _) (fun _ => rfl) (by decide) (by decide) (.cons (avAs_free rfl) .nil) .nil ?_)
      rintro _ _ _ hn ⟨rfl, rfl, rfl⟩
      refine ⟨.inl rfl, (rem [] _), fun hbd => (m3_rem (in_nil _) (.nil) hbd), (I r_4), 1, rfl, rfl, ?_⟩
      refine gt rfl (a1 (v := (B (decide (r_4 < 0)))) rfl ?_)
      refine un (a1 (v := (B (decide (r_4 < 0)))) rfl ?_)
      refine un (a1 rfl ?_)
      refine split2 (fun hc7 => ?_) (fun hc7 => ?_)
      ·replace h := ifT hc7 h
       refine gs rfl rfl ?_
       refine gs rfl rfl ?_
       refine gs rfl rfl ?_
       refine gs rfl rfl ?_
       refine gs rfl rfl ?_
       refine gs rfl rfl ?_
       refine gs rfl rfl ?_
       refine un (a1 (v := (B true)) rfl ?_)
       refine dnil ?_
       exact Sv.weak (weak_canon [0] rfl (by decide) (by decide) nlz (.cons rfl (avAs_free rfl) (.cons rfl (avAs_free rfl) (.cons rfl (avAs_free rfl) (.cons rfl (.c (lstC_ren rfl (by decide))) (.cons rfl (avAs_free rfl) .nil))))) (.row (by decide) rfl (fr_map fun _ => rfl) .nil)) (r4_units_j12_ok hzout h hself hK0 hr)
      ·replace h := ifF hc7 h
       refine gt rfl (a1 rfl ?_)
       refine gt rfl (a1 rfl ?_)
       refine gt rfl (a1 rfl ?_)
       refine gt rfl (a1 (v := (I (wi (k_ + 2)))) rfl ?_)
       obtain ⟨c_7, hx8, h⟩ := bnd h
       refine gt rfl (a1 (v := (.c (.val (.int .u8 (c_7.toNat : Int))))) (s_idxS rfl rfl hx8) ?_)
       obtain ⟨r_5, hr6, h⟩ := bnd h
       refine gt rfl (acv_gen (bs := []) («as» := [(.c (.val (.int .u8 (c_7.toNat : Int))))]) (h2 := _) (h1 := (fun _ => none)) rfl (by kernel_rfl) (r4_units_fn1_ok hr6) rfl (.cons (avAs_free rfl) .nil) (hsub_refl _) (.nil _) (fun _ => rfl) (by decide) (by decide) (.cons (avAs_free rfl) .nil) .nil ?_)
       rintro _ _ _ hn ⟨rfl, rfl, rfl⟩
       refine ⟨.inl rfl, (rem [] _), fun hbd => (m3_rem (in_nil _) (.nil) hbd), (I r_5), 1, rfl, rfl, ?_⟩
       refine gt rfl (a1 (v := (B (decide (r_5 < 0)))) rfl ?_)
       refine un (a1 (v := (B (decide (r_5 < 0)))) rfl ?_)
       refine dnil ?_
       exact Sv.weak (weak_canon [0] rfl (by decide) (by decide) nlz (.cons rfl (avAs_free rfl) (.cons rfl (avAs_free rfl) (.cons rfl (avAs_free rfl) (.cons rfl (.c (lstC_ren rfl (by decide))) (.cons rfl (avAs_free rfl) .nil))))) (.row (by decide) rfl (fr_map fun _ => rfl) .nil)) (r4_units_j12_ok hzout h hself hK0 hr)
 ·replace h := ifF hc1 h
  refine Sv.exit ?_
  exact hK0 out zout hzout h _ (weak_canon [0] rfl (by decide) (by decide) nlz (.cons rfl (.c (lstC_ren rfl (by decide))) .nil) (.row (by decide) rfl (fr_map fun _ => rfl) .nil))
/-- clerestory/clerestoryref4.units -/
noncomputable def r4_units (s_ : (List UInt8)) : Option ((List Tunit) × Bool) :=
 lim fun kk => r4_units_l0 s_ (fun (out1 : (List Tunit)) => 
   some (out1, true)) kk ([] : List Tunit) 0
theorem r4_units_ok {mL : Int} {s_ : (List UInt8)} {r : ((List Tunit) × Bool)} (h : r4_units s_ = some r) : ACalls Tryz.prog (GG mL) 91 [(S s_)] (fun _ => none) 0 (r4_units_post r) := by
 refine acalls_of_sv hmix c91 (R := r4_units_post r) ?_
 unfold r4_units at h
 refine Sv.seq ?_
 refine Sv.region ?_
 refine un (a1 rfl ?_)
 refine un (a1 rfl ?_)
 refine dnil ?_
 refine Sv.seq ?_
 refine Sv.region ?_
 refine un (a1 rfl ?_)
 refine dnil ?_
 refine Sv.seq ?_
 refine Sv.region ?_
 refine un (a1 rfl ?_)
 refine dnil ?_
 refine Sv.seq ?_
 refine Sv.seq ?_
 refine Sv.region ?_
 refine un (a1 rfl ?_)
 refine dnil ?_
 refine Sv.block ?_
 obtain ⟨kk, h⟩ := lim_some h
 refine Sv.weak (weak_canon [1000] rfl (by decide) (by decide) nlz (.cons rfl (avAs_free rfl) (.cons rfl (avAs_free rfl) (.cons rfl (.c (.same rfl)) (.cons rfl (avAs_free rfl) .nil)))) (.non (by decide) .nil)) (r4_units_l0_ok (fun _ => rfl) h ?_ (fun s hs => hs))
 ·intro out1 zout1 hzout1 h _ hw1
  refine Sv.weak hw1 ?_
  refine Sv.seq ?_
  refine Sv.region ?_
  refine un (a1 rfl ?_)
  refine un (a1 rfl ?_)
  refine un (a1 rfl ?_)
  refine dnil ?_
  refine Sv.ret ?_
  replace h := Option.some.inj h
  subst h
  exact ⟨_, .refl _, _, rfl, ⟨upd (fun _ => none) 0 (some (.tup [(lstV zout1 0 2 out1.length), (B true)])), (upd (fun _ => none) 0 (lstB zout1 2 (out1.map e_Tunit))), 1⟩, (.tup [(lstV zout1 0 2 out1.length), (B true)]), weak_canon2 [0] [0] (by decide) (by decide) nlz (.cons (by decide) .nil) (.cons rfl (avAs_tup (.cons (.c (lstC_ren rfl (by decide))) (.cons (avAs_free rfl) .nil))) .nil) (.row (by decide) rfl (fr_map fun _ => rfl) .nil), rfl, zout1, hzout1, rfl, rfl, rfl⟩
def a68 : AFunc := ⟨1, [(.tmp 2)], (.seq (.region [⟨(some 2), (.mov (.const (.c (.val (.bool false))))), none⟩])
 (.seq (.region [(mV 3 0), (oP 4 (.bslice 1 [(.val (.int .u8 0))] 1 [(0, (.tmp 3))])), (oP 5 (.ofBytes (.tmp 4))), ⟨(some 6), (.call 60 [(.const (.c (.str [97, 98, 99, 100, 101, 102, 103, 104, 105, 106, 107, 108, 109, 110, 111, 112, 113, 114, 115, 116, 117, 118, 119, 120, 121, 122, 65, 66, 67, 68, 69, 70, 71, 72, 73, 74, 75, 76, 77, 78, 79, 80, 81, 82, 83, 84, 85, 86, 87, 88, 89, 90, 48, 49, 50, 51, 52, 53, 54, 55, 56, 57, 45, 46, 95, 126]))), (.tmp 5)]), none⟩, (mV 7 6), ⟨(some 8), (.mov (.tmp 0)), (some (7, true))⟩, ⟨(some 9), (.bin .lss (.tmp 8) (.const (.c (.val (.int .u8 128))))), (some (7, true))⟩, ⟨(some 10), (.pick (.tmp 7) (.tmp 9) (.const (.c (.val (.bool false))))), none⟩, (mV 2 10)])
 .ret))⟩
set_option maxRecDepth 100000 in
theorem c68 : compFunc Tryz.prog 68 = some a68 := by kernel_rfl
def r4_isPlain_post (r : Bool) : AV → Heap → Nat → Prop := fun v h' n' => v = (B r) ∧ (h' = (fun _ => none)) ∧ n' = 0
/-- clerestory/clerestoryref4.isPlain -/
noncomputable def r4_isPlain (c_ : Int) : Option Bool :=
 (strings_Contains [97, 98, 99, 100, 101, 102, 103, 104, 105, 106, 107, 108, 109, 110, 111, 112, 113, 114, 115, 116, 117, 118, 119, 120, 121, 122, 65, 66, 67, 68, 69, 70, 71, 72, 73, 74, 75, 76, 77, 78, 79, 80, 81, 82, 83, 84, 85, 86, 87, 88, 89, 90, 48, 49, 50, 51, 52, 53, 54, 55, 56, 57, 45, 46, 95, 126] (byts [c_])).bind fun r_ =>
 some (r_ && (decide (c_ < 128)))
theorem r4_isPlain_ok {mL : Int} {c_ : Int} {r : Bool} (h : r4_isPlain c_ = some r) : CPure Tryz.prog (GG mL) 68 [(.c (.val (.int .u8 c_)))] (B r) := by
 refine acalls_of_sv hmix c68 (R := r4_isPlain_post r) ?_
 unfold r4_isPlain at h
 refine Sv.seq ?_
 refine Sv.region ?_
 refine un (a1 rfl ?_)
 refine dnil ?_
 refine Sv.seq ?_
 refine Sv.region ?_
 refine un (a1 rfl ?_)
 refine un (a2v (v := (lstV false 0 1 [c_].length)) (h' := upd _ 0 (lstB false 1 ([c_].map (eK .u8)))) (n' := 1) rfl rfl (fun h => by cases h) ?_)
 refine un (a1 (v := (S (byts [c_]))) (s_ofBytes (xs := [c_]) rfl (slc_lst rfl (List.length_map _).symm (map_nil_of (fun h => by cases h)))) ?_)
 obtain ⟨r_, hr1, h⟩ := bnd h
 refine un (ac_pure (strings_Contains_ok hr1) rfl rfl rfl ?_)
 refine un (a1 rfl ?_)
 refine gjoin 3 (d := 10) (v := (B (r_ && (decide (c_ < 128))))) (fun X hX => ?_) ?_
 ·refine split2 (fun hc1 => ?_) (fun hc1 => ?_)
  ·refine gt rfl (a1 rfl ?_)
   refine gt rfl (a1 (v := (B (decide (c_ < 128)))) rfl ?_)
   refine un (a1 (v := (B (decide (c_ < 128)))) rfl ?_)
   refine dnil ?_
   exact hX _ (.putEq (by rw [hc1]; rfl) (.skip _ _ (.skip _ _ (.putEq (by rw [hc1]) (.refl _)) rfl) rfl))
  ·refine gs rfl rfl ?_
   refine gs rfl rfl ?_
   refine un (a1 (v := (B false)) rfl ?_)
   refine dnil ?_
   exact hX _ (.putEq (by rw [hc1]; rfl) (.skip _ _ (.skip _ _ (.putEq (by rw [hc1]) (.refl _)) rfl) rfl))
 refine un (a1 rfl ?_)
 refine dnil ?_
 refine Sv.ret ?_
 replace h := Option.some.inj h
 subst h
 exact ⟨_, .refl _, _, rfl, ⟨upd (fun _ => none) 0 (some (B (r_ && (decide (c_ < 128))))), (fun _ => none), 0⟩, (B (r_ && (decide (c_ < 128)))), weak_canon [] rfl List.nodup_nil (Nat.le_refl _) nlz (.cons rfl (avAs_free rfl) .nil) .nil, rfl, rfl, rfl, rfl⟩
def a39_c0 : ACode := (.region [⟨(some 39), (.bin .add (.tmp 10) (kI 1)), none⟩, (mV 10 39)])
def a39_c1 : ACode := (.seq (.region [(oP 11 (.bin .lss (.tmp 10) (.tmp 9)))])
 (.seq (.cond (.tmp 11) .skip (.exit 0))
 (.seq (.block 1 (.seq (.region [(oP 12 (.iaddr 1 (.tmp 8) (.tmp 10))), (oP 13 (.load false 1 (.tmp 12))), (mV 5 13)])
 (.seq (.region [(mV 14 5), (oP 15 (.call 68 [(.tmp 14)]))])
 (.cond (.tmp 15) (.region [(mV 16 3), (mV 17 5), (oP 18 (.bslice 1 [(.val (.int .u8 0))] 1 [(0, (.tmp 17))])), (oP 19 (.ofBytes (.tmp 18))), (oP 20 (.bin .add (.tmp 16) (.tmp 19))), (mV 3 20)]) (.seq (.region [⟨(some 6), (.mov (.const (.c (.str [48, 49, 50, 51, 52, 53, 54, 55, 56, 57, 65, 66, 67, 68, 69, 70])))), none⟩])
 (.drawn (.fin [((mV 21 3), (0, 0)), ((mV 22 6), (0, 1)), ((mV 23 5), (0, 2)), (⟨(some 24), (.bin .quo (.tmp 23) (.const (.c (.val (.int .u8 16))))), none⟩, (0, 3)), ((mV 25 5), (0, 4)), (⟨(some 26), (.bin .quo (.tmp 25) (.const (.c (.val (.int .u8 16))))), none⟩, (0, 5)), (⟨(some 27), (.bin .add (.tmp 26) (.const (.c (.val (.int .u8 1))))), none⟩, (0, 6)), ((oP 28 (.slStr (.tmp 22) (some (.tmp 24)) (some (.tmp 27)))), (0, 7)), (⟨(some 29), (.bin .add (.const (.c (.str [37]))) (.tmp 28)), none⟩, (0, 8)), ((mV 30 6), (0, 9)), ((mV 31 5), (0, 10)), (⟨(some 32), (.bin .rem (.tmp 31) (.const (.c (.val (.int .u8 16))))), none⟩, (0, 11)), ((mV 33 5), (0, 12)), (⟨(some 34), (.bin .rem (.tmp 33) (.const (.c (.val (.int .u8 16))))), none⟩, (0, 13)), (⟨(some 35), (.bin .add (.tmp 34) (.const (.c (.val (.int .u8 1))))), none⟩, (0, 14)), ((oP 36 (.slStr (.tmp 30) (some (.tmp 32)) (some (.tmp 35)))), (0, 15)), ((oP 37 (.bin .add (.tmp 29) (.tmp 36))), (0, 16)), ((oP 38 (.bin .add (.tmp 21) (.tmp 37))), (0, 17)), ((mV 3 38), (0, 18))])))))))
 a39_c0)))
def a39 : AFunc := ⟨1, [(.tmp 2)], (.seq (.region [⟨(some 2), (.mov (.const (.c (.str [])))), none⟩])
 (.seq (.region [⟨(some 3), (.mov (.const (.c (.str [])))), none⟩])
 (.seq (.seq (.region [(mV 7 0), (oP 8 (.toBytes (.tmp 7))), (oP 9 (.len (.tmp 8))), ⟨(some 10), (.mov (kI 0)), none⟩])
 (.block 0 (.loop a39_c1)))
 (.seq (.region [(mV 40 3), (mV 2 40)])
 .ret))))⟩
set_option maxRecDepth 100000 in
theorem c39 : compFunc Tryz.prog 39 = some a39 := by kernel_rfl
def r4_Encoded_post (r : (List UInt8)) : AV → Heap → Nat → Prop := fun v h' n' => v = (S r) ∧ (h' = (fun _ => none)) ∧ n' = 0
noncomputable def r4_Encoded_j3 (v10 : Int) (s_ : (List UInt8)) (self : (List UInt8) → (List Int) → Int → Option (List UInt8)) (K0_ : (List UInt8) → Option (List UInt8)) (out2 : (List UInt8)) (v81 : (List Int)) : Option (List UInt8) :=
 self out2 v81 (wi (v10 + 1))
theorem r4_Encoded_j3_ok {mL : Int} {Q : AExit → St → Prop} {v10 : Int} {s_ : (List UInt8)} {self : (List UInt8) → (List Int) → Int → Option (List UInt8)} {K0_ : (List UInt8) → Option (List UInt8)} {out2 : (List UInt8)} {v81 : (List Int)} {zv81 : Bool} (hzv81 : zv81 = true → v81 = []) {o : (List UInt8)} (h : r4_Encoded_j3 v10 s_ self K0_ out2 v81 = some o)
  (hself : ∀ (out : (List UInt8)) (v8 : (List Int)) (v10 : Int) (zv8 : Bool) (_ : zv8 = true → v8 = []), self out v8 v10 = some o → ∀ s, Weak 0 s ⟨(upd (upd (upd (upd (fun _ => none) 3 (some (S out))) 8 (some (lstV zv8 0 1 v8.length))) 9 (some (I ((ints s_).length : Int)))) 10 (some (I v10))), (upd (fun _ => none) 0 (lstB zv8 1 (v8.map (eK .u8)))), 1⟩ → (Q) .normal s)
  (hK0 : ∀ (out1 : (List UInt8)), K0_ out1 = some o → ∀ s, Weak 0 s ⟨(upd (fun _ => none) 3 (some (S out1))), (fun _ => none), 0⟩ → Q (.exit 0) s)
  (hr : ∀ s, Ends a39.results 0 (r4_Encoded_post o) .ret s → Q .ret s) :
  Sv Tryz.prog (GG mL) 0 a39_c0 Q ⟨(upd (upd (upd (upd (fun _ => none) 3 (some (S out2))) 8 (some (lstV zv81 0 1 v81.length))) 9 (some (I ((ints s_).length : Int)))) 10 (some (I v10))), (upd (fun _ => none) 0 (lstB zv81 1 (v81.map (eK .u8)))), 1⟩ := by
 unfold r4_Encoded_j3 at h
 refine Sv.region ?_
 refine un (a1 (v := (I (wi (v10 + 1)))) rfl ?_)
 refine un (a1 rfl ?_)
 refine dnil ?_
 exact hself out2 v81 (wi (v10 + 1)) zv81 hzv81 h _ (weak_canon [0] rfl (by decide) (by decide) nlz (.cons rfl (avAs_free rfl) (.cons rfl (avAs_free rfl) (.cons rfl (.c (lstC_ren rfl (by decide))) (.cons rfl (avAs_free rfl) .nil)))) (.row (by decide) rfl (fr_map fun _ => rfl) .nil))
noncomputable def r4_Encoded_l0 (s_ : (List UInt8)) (K0_ : (List UInt8) → Option (List UInt8)) : Nat → (List UInt8) → (List Int) → Int → Option (List UInt8)
 | 0, _, _, _ => none
 | k + 1, out, v8, v10 =>
  if decide (v10 < ((ints s_).length : Int)) then
   (at? v8 v10).bind fun x_ =>
   (r4_isPlain x_).bind fun r_ =>
   if r_ then
    (cat? out (byts [x_])).bind fun r_1 =>
    r4_Encoded_j3 v10 s_ (r4_Encoded_l0 s_ K0_ k) K0_ r_1 v8
   else
    (sub? [48, 49, 50, 51, 52, 53, 54, 55, 56, 57, 65, 66, 67, 68, 69, 70] (wr .u8 (x_.tdiv 16)) (wr .u8 ((wr .u8 (x_.tdiv 16)) + 1))).bind fun r_2 =>
    (cat? [37] r_2).bind fun r_3 =>
    (sub? [48, 49, 50, 51, 52, 53, 54, 55, 56, 57, 65, 66, 67, 68, 69, 70] (x_.tmod 16) (wr .u8 ((x_.tmod 16) + 1))).bind fun r_4 =>
    (cat? r_3 r_4).bind fun r_5 =>
    (cat? out r_5).bind fun r_6 =>
    r4_Encoded_j3 v10 s_ (r4_Encoded_l0 s_ K0_ k) K0_ r_6 v8
  else
   K0_ out
theorem r4_Encoded_l0_ok {mL : Int} {Q : AExit → St → Prop} {s_ : (List UInt8)} {K0_ : (List UInt8) → Option (List UInt8)} {k : Nat} {out : (List UInt8)} {v8 : (List Int)} {v10 : Int} {zv8 : Bool} (hzv8 : zv8 = true → v8 = []) {o : (List UInt8)} (h : r4_Encoded_l0 s_ K0_ k out v8 v10 = some o)
  (hK0 : ∀ (out1 : (List UInt8)), K0_ out1 = some o → ∀ s, Weak 0 s ⟨(upd (fun _ => none) 3 (some (S out1))), (fun _ => none), 0⟩ → Q (.exit 0) s)
  (hr : ∀ s, Ends a39.results 0 (r4_Encoded_post o) .ret s → Q .ret s) :
  Sv Tryz.prog (GG mL) 0 (.loop a39_c1) Q ⟨(upd (upd (upd (upd (fun _ => none) 3 (some (S out))) 8 (some (lstV zv8 0 1 v8.length))) 9 (some (I ((ints s_).length : Int)))) 10 (some (I v10))), (upd (fun _ => none) 0 (lstB zv8 1 (v8.map (eK .u8)))), 1⟩ := by
 refine Sv.loop (I := fun k s => ∃ (out : (List UInt8)), ∃ (v8 : (List Int)), ∃ (v10 : Int), ∃ (zv8 : Bool), (zv8 = true → v8 = []) ∧ r4_Encoded_l0 s_ K0_ k out v8 v10 = some o ∧ s = ⟨(upd (upd (upd (upd (fun _ => none) 3 (some (S out))) 8 (some (lstV zv8 0 1 v8.length))) 9 (some (I ((ints s_).length : Int)))) 10 (some (I v10))), (upd (fun _ => none) 0 (lstB zv8 1 (v8.map (eK .u8)))), 1⟩) (fun k s hI => ?_) ⟨out, v8, v10, zv8, hzv8, h, rfl⟩
 clear h
 clear hzv8 zv8 v10 v8 out
 obtain ⟨out, v8, v10, zv8, hzv8, h, rfl⟩ := hI
 cases k with
 | zero => cases h
 | succ k =>
 rw [r4_Encoded_l0] at h
 have hself : ∀ (out : (List UInt8)) (v8 : (List Int)) (v10 : Int) (zv8 : Bool) (_ : zv8 = true → v8 = []), (r4_Encoded_l0 s_ K0_ k) out v8 v10 = some o → ∀ s, Weak 0 s ⟨(upd (upd (upd (upd (fun _ => none) 3 (some (S out))) 8 (some (lstV zv8 0 1 v8.length))) 9 (some (I ((ints s_).length : Int)))) 10 (some (I v10))), (upd (fun _ => none) 0 (lstB zv8 1 (v8.map (eK .u8)))), 1⟩ → (AThen (fun s' => ∃ s'' k', Weak 0 s' s'' ∧ k' < k + 1 ∧ (fun k s => ∃ (out : (List UInt8)), ∃ (v8 : (List Int)), ∃ (v10 : Int), ∃ (zv8 : Bool), (zv8 = true → v8 = []) ∧ r4_Encoded_l0 s_ K0_ k out v8 v10 = some o ∧ s = ⟨(upd (upd (upd (upd (fun _ => none) 3 (some (S out))) 8 (some (lstV zv8 0 1 v8.length))) 9 (some (I ((ints s_).length : Int)))) 10 (some (I v10))), (upd (fun _ => none) 0 (lstB zv8 1 (v8.map (eK .u8)))), 1⟩) k' s'') Q) .normal s := fun out v8 v10 zv8 hzv8 h s hw => ⟨_, k, hw, Nat.lt_succ_self k, out, v8, v10, zv8, hzv8, h, rfl⟩
 refine Sv.seq ?_
 refine Sv.region ?_
 refine un (a1 (v := (B (decide (v10 < ((ints s_).length : Int))))) rfl ?_)
 refine dnil ?_
 refine Sv.seq ?_
 refine Sv.cond (b := decide (v10 < ((ints s_).length : Int))) rfl (fun hc1 => ?_) (fun hc1 => ?_)
 ·replace h := ifT hc1 h
  refine Sv.skip ?_
  refine Sv.seq ?_
  refine Sv.block ?_
  refine Sv.seq ?_
  refine Sv.region ?_
  obtain ⟨x_, hx1, h⟩ := bnd h
  refine un (a1 (v := (.c (.ref 0 1 v10.toNat 0))) (s_iaddrL rfl rfl hzv8 hx1) ?_)
  refine un (a1 (v := (.c (.val (.int .u8 x_)))) (s_loadL (z := zv8) (e := (eK .u8)) rfl rfl hzv8 hx1 rfl rfl) ?_)
  refine un (a1 rfl ?_)
  refine dnil ?_
  refine Sv.seq ?_
  refine Sv.region ?_
  refine un (a1 rfl ?_)
  obtain ⟨r_, hr1, h⟩ := bnd h
  refine un (ac_pure (r4_isPlain_ok hr1) rfl rfl rfl ?_)
  refine dnil ?_
  refine Sv.cond (b := r_) rfl (fun hc2 => ?_) (fun hc2 => ?_)
  ·replace h := ifT hc2 h
   refine Sv.region ?_
   refine un (a1 rfl ?_)
   refine un (a1 rfl ?_)
   refine un (a2v (v := (lstV false 1 1 [x_].length)) (h' := upd _ 1 (lstB false 1 ([x_].map (eK .u8)))) (n' := 2) rfl rfl (fun h => by cases h) ?_)
   refine un (a1 (v := (S (byts [x_]))) (s_ofBytes (xs := [x_]) rfl (slc_lst rfl (List.length_map _).symm (map_nil_of (fun h => by cases h)))) ?_)
   obtain ⟨r_1, hx2, h⟩ := bnd h
   refine un (a1 (v := (S r_1)) (s_cat rfl rfl hx2) ?_)
   refine un (a1 rfl ?_)
   refine dnil ?_
   exact Sv.weak (weak_canon [0] rfl (by decide) (by decide) nlz (.cons rfl (avAs_free rfl) (.cons rfl (avAs_free rfl) (.cons rfl (.c (lstC_ren rfl (by decide))) (.cons rfl (avAs_free rfl) .nil)))) (.row (by decide) rfl (fr_map fun _ => rfl) .nil)) (r4_Encoded_j3_ok hzv8 h hself hK0 hr)
  ·replace h := ifF hc2 h
   refine Sv.seq ?_
   refine Sv.region ?_
   refine un (a1 rfl ?_)
   refine dnil ?_
   refine Sv.drawn ?_
   refine un (a1 rfl ?_)
   refine un (a1 rfl ?_)
   refine un (a1 rfl ?_)
   refine un (a1 (v := (.c (.val (.int .u8 (wr .u8 (x_.tdiv 16)))))) rfl ?_)
   refine un (a1 rfl ?_)
   refine un (a1 (v := (.c (.val (.int .u8 (wr .u8 (x_.tdiv 16)))))) rfl ?_)
   refine un (a1 (v := (.c (.val (.int .u8 (wr .u8 ((wr .u8 (x_.tdiv 16)) + 1)))))) rfl ?_)
   obtain ⟨r_2, hx3, h⟩ := bnd h
   refine un (a1 (v := (S r_2)) (s_slStr rfl rfl rfl hx3) ?_)
   obtain ⟨r_3, hx4, h⟩ := bnd h
   refine un (a1 (v := (S r_3)) (s_cat rfl rfl hx4) ?_)
   refine un (a1 rfl ?_)
   refine un (a1 rfl ?_)
   refine un (a1 (v := (.c (.val (.int .u8 (x_.tmod 16))))) rfl ?_)
   refine un (a1 rfl ?_)
   refine un (a1 (v := (.c (.val (.int .u8 (x_.tmod 16))))) rfl ?_)
   refine un (a1 (v := (.c (.val (.int .u8 (wr .u8 ((x_.tmod 16) + 1)))))) rfl ?_)
   obtain ⟨r_4, hx5, h⟩ := bnd h
   refine un (a1 (v := (S r_4)) (s_slStr rfl rfl rfl hx5) ?_)
   obtain ⟨r_5, hx6, h⟩ := bnd h
   refine un (a1 (v := (S r_5)) (s_cat rfl rfl hx6) ?_)
   obtain ⟨r_6, hx7, h⟩ := bnd h
   refine un (a1 (v := (S r_6)) (s_cat rfl rfl hx7) ?_)
   refine un (a1 rfl ?_)
   refine dnil ?_
   exact Sv.weak (weak_canon [0] rfl (by decide) (by decide) nlz (.cons rfl (avAs_free rfl) (.cons rfl (avAs_free rfl) (.cons rfl (.c (lstC_ren rfl (by decide))) (.cons rfl (avAs_free rfl) .nil)))) (.row (by decide) rfl (fr_map fun _ => rfl) .nil)) (r4_Encoded_j3_ok hzv8 h hself hK0 hr)
 ·replace h := ifF hc1 h
  refine Sv.exit ?_
  exact hK0 out h _ (weak_canon [] rfl (by decide) (by decide) nlz (.cons rfl (avAs_free rfl) .nil) .nil)
/-- clerestory/clerestoryref4.Encoded -/
noncomputable def r4_Encoded (s_ : (List UInt8)) : Option (List UInt8) :=
 lim fun kk => r4_Encoded_l0 s_ (fun (out1 : (List UInt8)) => 
   some out1) kk [] (ints s_) 0
theorem r4_Encoded_ok {mL : Int} {s_ : (List UInt8)} {r : (List UInt8)} (h : r4_Encoded s_ = some r) : CPure Tryz.prog (GG mL) 39 [(S s_)] (S r) := by
 refine acalls_of_sv hmix c39 (R := r4_Encoded_post r) ?_
 unfold r4_Encoded at h
 refine Sv.seq ?_
 refine Sv.region ?_
 refine un (a1 rfl ?_)
 refine dnil ?_
 refine Sv.seq ?_
 refine Sv.region ?_
 refine un (a1 rfl ?_)
 refine dnil ?_
 refine Sv.seq ?_
 refine Sv.seq ?_
 refine Sv.region ?_
 refine un (a1 rfl ?_)
 refine un (a2v (v := (lstV false 0 1 (ints s_).length)) (h' := upd _ 0 (lstB false 1 ((ints s_).map (eK .u8)))) (n' := 1) rfl (s_toBytes rfl) (fun h => by cases h) ?_)
 refine un (a1 (v := (I ((ints s_).length : Int))) (s_lenL rfl (len_nil_of (fun h => by cases h))) ?_)
 refine un (a1 rfl ?_)
 refine dnil ?_
 refine Sv.block ?_
 obtain ⟨kk, h⟩ := lim_some h
 refine Sv.weak (weak_canon [0] rfl (by decide) (by decide) nlz (.cons rfl (avAs_free rfl) (.cons rfl (avAs_free rfl) (.cons rfl (.c (lstC_ren rfl (by decide))) (.cons rfl (avAs_free rfl) .nil)))) (.row (by decide) rfl (fr_map fun _ => rfl) .nil)) (r4_Encoded_l0_ok (fun h => by cases h) h ?_ (fun s hs => hs))
 ·intro out1 h _ hw1
  refine Sv.weak hw1 ?_
  refine Sv.seq ?_
  refine Sv.region ?_
  refine un (a1 rfl ?_)
  refine un (a1 rfl ?_)
  refine dnil ?_
  refine Sv.ret ?_
  replace h := Option.some.inj h
  subst h
  exact ⟨_, .refl _, _, rfl, ⟨upd (fun _ => none) 0 (some (S out1)), (fun _ => none), 0⟩, (S out1), weak_canon [] rfl List.nodup_nil (Nat.le_refl _) nlz (.cons rfl (avAs_free rfl) .nil) .nil, rfl, rfl, rfl, rfl⟩
def a61_c0 : ACode := (.cond (.tmp 42) (.region [(mV 43 6), (mV 44 9), (oP 45 (.bin .add (.tmp 43) (.tmp 44))), (mV 6 45)]) (.region [(mV 46 6), (mV 47 9), (oP 48 (.call 39 [(.tmp 47)])), (oP 49 (.bin .add (.tmp 46) (.tmp 48))), (mV 6 49)]))
def a61_c1 : ACode := (.region [⟨(some 50), (.bin .add (.tmp 17) (kI 1)), none⟩, (mV 17 50)])
def a61_c2 : ACode := (.seq (.region [(oP 18 (.bin .lss (.tmp 17) (.tmp 16)))])
 (.seq (.cond (.tmp 18) .skip (.exit 0))
 (.seq (.block 1 (.seq (.region [(oP 19 (.iaddr 2 (.tmp 15) (.tmp 17))), (oP 20 (.load true 2 (.tmp 19))), ⟨(some 8), (.box (.const (.agg [(.val (.int .u8 0)), (.val (.bool false))]))), none⟩, ⟨none, (.store 2 (.tmp 8) (.tmp 20)), none⟩])
 (.seq (.region [(oP 21 (.faddr 0 (.tmp 8))), (oP 22 (.load false 1 (.tmp 21))), (oP 23 (.bslice 1 [(.val (.int .u8 0))] 1 [(0, (.tmp 22))])), (oP 24 (.ofBytes (.tmp 23))), (mV 9 24)])
 (.seq (.region [(oP 25 (.faddr 0 (.tmp 8))), (oP 26 (.load false 1 (.tmp 25))), (oP 27 (.call 68 [(.tmp 26)])), (oP 28 (.un .not (.tmp 27))), (mV 29 28), ⟨(some 30), (.faddr 1 (.tmp 8)), (some (29, true))⟩, ⟨(some 31), (.load false 1 (.tmp 30)), (some (29, true))⟩, ⟨(some 32), (.un .not (.tmp 31)), (some (29, true))⟩, ⟨(some 33), (.pick (.tmp 29) (.tmp 32) (.const (.c (.val (.bool false))))), none⟩, (mV 34 33), ⟨(some 35), (.faddr 0 (.tmp 8)), (some (34, true))⟩, ⟨(some 36), (.load false 1 (.tmp 35)), (some (34, true))⟩, ⟨(some 37), (.bin .lss (.tmp 36) (.const (.c (.val (.int .u8 128))))), (some (34, true))⟩, ⟨(some 38), (.pick (.tmp 34) (.tmp 37) (.const (.c (.val (.bool false))))), none⟩, (mV 39 38), ⟨(some 40), (.mov (.tmp 9)), (some (39, true))⟩, ⟨(some 41), (.call 60 [(.const (.c (.str [33, 36, 38, 39, 40, 41, 42, 43, 44, 59, 61, 58, 64, 47, 63]))), (.tmp 40)]), (some (39, true))⟩, ⟨(some 42), (.pick (.tmp 39) (.tmp 41) (.const (.c (.val (.bool false))))), none⟩])
 a61_c0))))
 a61_c1)))
def a61 : AFunc := ⟨1, [(.tmp 2), (.tmp 3)], (.seq (.region [⟨(some 2), (.mov (.const (.c (.str [])))), none⟩, ⟨(some 3), (.mov (.const (.c (.val (.bool false))))), none⟩])
 (.seq (.region [(mV 11 0), (oP 12 (.call 91 [(.tmp 11)])), (mV 10 12), (oP 13 (.ext (.tmp 10) 0)), (oP 14 (.ext (.tmp 10) 1)), (mV 4 13), (mV 5 14)])
 (.seq (.region [⟨(some 6), (.mov (.const (.c (.str [])))), none⟩])
 (.seq (.seq (.region [(mV 15 4), (oP 16 (.len (.tmp 15))), ⟨(some 17), (.mov (kI 0)), none⟩])
 (.block 0 (.loop a61_c2)))
 (.seq (.region [(mV 51 6), (mV 52 5), (mV 2 51), (mV 3 52)])
 .ret)))))⟩
set_option maxRecDepth 100000 in
theorem c61 : compFunc Tryz.prog 61 = some a61 := by kernel_rfl
def r4_Cleaned_post (r : ((List UInt8) × Bool)) : AV → Heap → Nat → Prop := fun v h' n' => v = (.tup [(S r.1), (B r.2)]) ∧ (h' = (fun _ => none)) ∧ n' = 0
noncomputable def r4_Cleaned_j11 (v17 : Int) (r_ : ((List Tunit) × Bool)) (self : (List UInt8) → (List Tunit) → Int → Option ((List UInt8) × Bool)) (K0_ : (List UInt8) → Option ((List UInt8) × Bool)) (out2 : (List UInt8)) (v151 : (List Tunit)) : Option ((List UInt8) × Bool) :=
 self out2 v151 (wi (v17 + 1))
theorem r4_Cleaned_j11_ok {mL : Int} {Q : AExit → St → Prop} {v17 : Int} {r_ : ((List Tunit) × Bool)} {self : (List UInt8) → (List Tunit) → Int → Option ((List UInt8) × Bool)} {K0_ : (List UInt8) → Option ((List UInt8) × Bool)} {out2 : (List UInt8)} {v151 : (List Tunit)} {zv151 : Bool} (hzv151 : zv151 = true → v151 = []) {o : ((List UInt8) × Bool)} (h : r4_Cleaned_j11 v17 r_ self K0_ out2 v151 = some o)
  (hself : ∀ (out : (List UInt8)) (v15 : (List Tunit)) (v17 : Int) (zv15 : Bool) (_ : zv15 = true → v15 = []), self out v15 v17 = some o → ∀ s, Weak 0 s ⟨(upd (upd (upd (upd (upd (fun _ => none) 5 (some (B r_.2))) 6 (some (S out))) 15 (some (lstV zv15 0 2 v15.length))) 16 (some (I (r_.1.length : Int)))) 17 (some (I v17))), (upd (fun _ => none) 0 (lstB zv15 2 (v15.map e_Tunit))), 1⟩ → (Q) .normal s)
  (hK0 : ∀ (out1 : (List UInt8)), K0_ out1 = some o → ∀ s, Weak 0 s ⟨(upd (upd (fun _ => none) 5 (some (B r_.2))) 6 (some (S out1))), (fun _ => none), 0⟩ → Q (.exit 0) s)
  (hr : ∀ s, Ends a61.results 0 (r4_Cleaned_post o) .ret s → Q .ret s) :
  Sv Tryz.prog (GG mL) 0 a61_c1 Q ⟨(upd (upd (upd (upd (upd (fun _ => none) 5 (some (B r_.2))) 6 (some (S out2))) 15 (some (lstV zv151 0 2 v151.length))) 16 (some (I (r_.1.length : Int)))) 17 (some (I v17))), (upd (fun _ => none) 0 (lstB zv151 2 (v151.map e_Tunit))), 1⟩ := by
 unfold r4_Cleaned_j11 at h
 refine Sv.region ?_
 refine un (a1 (v := (I (wi (v17 + 1)))) rfl ?_)
 refine un (a1 rfl ?_)
 refine dnil ?_
 exact hself out2 v151 (wi (v17 + 1)) zv151 hzv151 h _ (weak_canon [0] rfl (by decide) (by decide) nlz (.cons rfl (avAs_free rfl) (.cons rfl (avAs_free rfl) (.cons rfl (.c (lstC_ren rfl (by decide))) (.cons rfl (avAs_free rfl) (.cons rfl (avAs_free rfl) .nil))))) (.row (by decide) rfl (fr_map fun _ => rfl) .nil))
abbrev r4_Cleaned_q0 (mL : Int) (Q : AExit → St → Prop) : AExit → St → Prop := AThen (Sv Tryz.prog (GG mL) 0 a61_c1 Q) Q
abbrev r4_Cleaned_q1 (mL : Int) (Q : AExit → St → Prop) : AExit → St → Prop := ABlock 1 (r4_Cleaned_q0 mL Q)
noncomputable def r4_Cleaned_j12 (out : (List UInt8)) (x_ : Tunit) (v17 : Int) (r_ : ((List Tunit) × Bool)) (self : (List UInt8) → (List Tunit) → Int → Option ((List UInt8) × Bool)) (K0_ : (List UInt8) → Option ((List UInt8) × Bool)) (v152 : (List Tunit)) (v42 : Bool) : Option ((List UInt8) × Bool) :=
 if v42 then
  (cat? out (byts [x_.f_c])).bind fun r_1 =>
  r4_Cleaned_j11 v17 r_ self K0_ r_1 v152
 else
  (r4_Encoded (byts [x_.f_c])).bind fun r_2 =>
  (cat? out r_2).bind fun r_3 =>
  r4_Cleaned_j11 v17 r_ self K0_ r_3 v152
theorem r4_Cleaned_j12_ok {mL : Int} {Q : AExit → St → Prop} {out : (List UInt8)} {x_ : Tunit} {v17 : Int} {r_ : ((List Tunit) × Bool)} {self : (List UInt8) → (List Tunit) → Int → Option ((List UInt8) × Bool)} {K0_ : (List UInt8) → Option ((List UInt8) × Bool)} {v152 : (List Tunit)} {v42 : Bool} {zv152 : Bool} (hzv152 : zv152 = true → v152 = []) {o : ((List UInt8) × Bool)} (h : r4_Cleaned_j12 out x_ v17 r_ self K0_ v152 v42 = some o)
  (hself : ∀ (out : (List UInt8)) (v15 : (List Tunit)) (v17 : Int) (zv15 : Bool) (_ : zv15 = true → v15 = []), self out v15 v17 = some o → ∀ s, Weak 0 s ⟨(upd (upd (upd (upd (upd (fun _ => none) 5 (some (B r_.2))) 6 (some (S out))) 15 (some (lstV zv15 0 2 v15.length))) 16 (some (I (r_.1.length : Int)))) 17 (some (I v17))), (upd (fun _ => none) 0 (lstB zv15 2 (v15.map e_Tunit))), 1⟩ → (Q) .normal s)
  (hK0 : ∀ (out1 : (List UInt8)), K0_ out1 = some o → ∀ s, Weak 0 s ⟨(upd (upd (fun _ => none) 5 (some (B r_.2))) 6 (some (S out1))), (fun _ => none), 0⟩ → Q (.exit 0) s)
  (hr : ∀ s, Ends a61.results 0 (r4_Cleaned_post o) .ret s → Q .ret s) :
  Sv Tryz.prog (GG mL) 0 a61_c0 (r4_Cleaned_q1 mL Q) ⟨(upd (upd (upd (upd (upd (upd (upd (fun _ => none) 5 (some (B r_.2))) 6 (some (S out))) 9 (some (S (byts [x_.f_c])))) 15 (some (lstV zv152 0 2 v152.length))) 16 (some (I (r_.1.length : Int)))) 17 (some (I v17))) 42 (some (B v42))), (upd (fun _ => none) 0 (lstB zv152 2 (v152.map e_Tunit))), 1⟩ := by
 unfold r4_Cleaned_j12 at h
 refine Sv.cond (b := v42) rfl (fun hc2 => ?_) (fun hc2 => ?_)
 ·replace h := ifT hc2 h
  refine Sv.region ?_
  refine un (a1 rfl ?_)
  refine un (a1 rfl ?_)
  obtain ⟨r_1, hx2, h⟩ := bnd h
  refine un (a1 (v := (S r_1)) (s_cat rfl rfl hx2) ?_)
  refine un (a1 rfl ?_)
  refine dnil ?_
  exact Sv.weak (weak_canon [0] rfl (by decide) (by decide) nlz (.cons rfl (avAs_free rfl) (.cons rfl (avAs_free rfl) (.cons rfl (.c (lstC_ren rfl (by decide))) (.cons rfl (avAs_free rfl) (.cons rfl (avAs_free rfl) .nil))))) (.row (by decide) rfl (fr_map fun _ => rfl) .nil)) (r4_Cleaned_j11_ok hzv152 h hself hK0 hr)
 ·replace h := ifF hc2 h
  refine Sv.region ?_
  refine un (a1 rfl ?_)
  refine un (a1 rfl ?_)
  obtain ⟨r_2, hr2, h⟩ := bnd h
  refine un (ac_pure (r4_Encoded_ok hr2) rfl rfl rfl ?_)
  obtain ⟨r_3, hx3, h⟩ := bnd h
  refine un (a1 (v := (S r_3)) (s_cat rfl rfl hx3) ?_)
  refine un (a1 rfl ?_)
  refine dnil ?_
  exact Sv.weak (weak_canon [0] rfl (by decide) (by decide) nlz (.cons rfl (avAs_free rfl) (.cons rfl (avAs_free rfl) (.cons rfl (.c (lstC_ren rfl (by decide))) (.cons rfl (avAs_free rfl) (.cons rfl (avAs_free rfl) .nil))))) (.row (by decide) rfl (fr_map fun _ => rfl) .nil)) (r4_Cleaned_j11_ok hzv152 h hself hK0 hr)
noncomputable def r4_Cleaned_l0 (r_ : ((List Tunit) × Bool)) (K0_ : (List UInt8) → Option ((List UInt8) × Bool)) : Nat → (List UInt8) → (List Tunit) → Int → Option ((List UInt8) × Bool)
 | 0, _, _, _ => none
 | k + 1, out, v15, v17 =>
  if decide (v17 < (r_.1.length : Int)) then
   (at? v15 v17).bind fun x_ =>
   (r4_isPlain x_.f_c).bind fun r_4 =>
   if (((!r_4) && (!x_.f_triple)) && (decide (x_.f_c < 128))) then
    (strings_Contains [33, 36, 38, 39, 40, 41, 42, 43, 44, 59, 61, 58, 64, 47, 63] (byts [x_.f_c])).bind fun r_5 =>
    r4_Cleaned_j12 out x_ v17 r_ (r4_Cleaned_l0 r_ K0_ k) K0_ v15 r_5
   else
    r4_Cleaned_j12 out x_ v17 r_ (r4_Cleaned_l0 r_ K0_ k) K0_ v15 false
  else
   K0_ out
theorem r4_Cleaned_l0_ok {mL : Int} {Q : AExit → St → Prop} {r_ : ((List Tunit) × Bool)} {K0_ : (List UInt8) → Option ((List UInt8) × Bool)} {k : Nat} {out : (List UInt8)} {v15 : (List Tunit)} {v17 : Int} {zv15 : Bool} (hzv15 : zv15 = true → v15 = []) {o : ((List UInt8) × Bool)} (h : r4_Cleaned_l0 r_ K0_ k out v15 v17 = some o)
  (hK0 : ∀ (out1 : (List UInt8)), K0_ out1 = some o → ∀ s, Weak 0 s ⟨(upd (upd (fun _ => none) 5 (some (B r_.2))) 6 (some (S out1))), (fun _ => none), 0⟩ → Q (.exit 0) s)
  (hr : ∀ s, Ends a61.results 0 (r4_Cleaned_post o) .ret s → Q .ret s) :
  Sv Tryz.prog (GG mL) 0 (.loop a61_c2) Q ⟨(upd (upd (upd (upd (upd (fun _ => none) 5 (some (B r_.2))) 6 (some (S out))) 15 (some (lstV zv15 0 2 v15.length))) 16 (some (I (r_.1.length : Int)))) 17 (some (I v17))), (upd (fun _ => none) 0 (lstB zv15 2 (v15.map e_Tunit))), 1⟩ := by
 refine Sv.loop (I := fun k s => ∃ (out : (List UInt8)), ∃ (v15 : (List Tunit)), ∃ (v17 : Int), ∃ (zv15 : Bool), (zv15 = true → v15 = []) ∧ r4_Cleaned_l0 r_ K0_ k out v15 v17 = some o ∧ s = ⟨(upd (upd (upd (upd (upd (fun _ => none) 5 (some (B r_.2))) 6 (some (S out))) 15 (some (lstV zv15 0 2 v15.length))) 16 (some (I (r_.1.length : Int)))) 17 (some (I v17))), (upd (fun _ => none) 0 (lstB zv15 2 (v15.map e_Tunit))), 1⟩) (fun k s hI => ?_) ⟨out, v15, v17, zv15, hzv15, h, rfl⟩
 clear h
 clear hzv15 zv15 v17 v15 out
 obtain ⟨out, v15, v17, zv15, hzv15, h, rfl⟩ := hI
 cases k with
 | zero => cases h
 | succ k =>
 rw [r4_Cleaned_l0] at h
 have hself : ∀ (out : (List UInt8)) (v15 : (List Tunit)) (v17 : Int) (zv15 : Bool) (_ : zv15 = true → v15 = []), (r4_Cleaned_l0 r_ K0_ k) out v15 v17 = some o → ∀ s, Weak 0 s ⟨(upd (upd (upd (upd (upd (fun _ => none) 5 (some (B r_.2))) 6 (some (S out))) 15 (some (lstV zv15 0 2 v15.length))) 16 (some (I (r_.1.length : Int)))) 17 (some (I v17))), (upd (fun _ => none) 0 (lstB zv15 2 (v15.map e_Tunit))), 1⟩ → (AThen (fun s' => ∃ s'' k', Weak 0 s' s'' ∧ k' < k + 1 ∧ (fun k s => ∃ (out : (List UInt8)), ∃ (v15 : (List Tunit)), ∃ (v17 : Int), ∃ (zv15 : Bool), (zv15 = true → v15 = []) ∧ r4_Cleaned_l0 r_ K0_ k out v15 v17 = some o ∧ s = ⟨(upd (upd (upd (upd (upd (fun _ => none) 5 (some (B r_.2))) 6 (some (S out))) 15 (some (lstV zv15 0 2 v15.length))) 16 (some (I (r_.1.length : Int)))) 17 (some (I v17))), (upd (fun _ => none) 0 (lstB zv15 2 (v15.map e_Tunit))), 1⟩) k' s'') Q) .normal s := fun out v15 v17 zv15 hzv15 h s hw => ⟨_, k, hw, Nat.lt_succ_self k, out, v15, v17, zv15, hzv15, h, rfl⟩
 refine Sv.seq ?_
 refine Sv.region ?_
 refine un (a1 (v := (B (decide (v17 < (r_.1.length : Int))))) rfl ?_)
 refine dnil ?_
 refine Sv.seq ?_
 refine Sv.cond (b := decide (v17 < (r_.1.length : Int))) rfl (fun hc1 => ?_) (fun hc1 => ?_)
 ·replace h := ifT hc1 h
  refine Sv.skip ?_
  refine Sv.seq ?_
  refine Sv.block ?_
  refine Sv.seq ?_
  refine Sv.region ?_
  obtain ⟨x_, hx1, h⟩ := bnd h
  refine un (a1 (v := (.c (.ref 0 2 v17.toNat 0))) (s_iaddrL rfl rfl hzv15 hx1) ?_)
  refine un (a1 (v := (.agg [.val (.int .u8 x_.f_c), cB x_.f_triple])) (s_loadL (z := zv15) (e := e_Tunit) rfl rfl hzv15 hx1 rfl rfl) ?_)
  refine un (a2v (v := (.c (.ref 1 2 0 0))) (h' := upd _ 1 (some (.cells 2 [[.val (.int .u8 0), cB false]]))) (n' := 2) rfl rfl (fun h => by cases h) ?_)
  refine un (a2n (h' := upd _ 1 (some (.cells 2 [[.val (.int .u8 x_.f_c), cB x_.f_triple]]))) (n' := 2) rfl rfl (fun h => by cases h) ?_)
  refine dnil ?_
  refine Sv.seq ?_
  refine Sv.region ?_
  refine un (a1 (v := (.c (.ref 1 2 0 0))) rfl ?_)
  refine un (a1 (v := (.c (.val (.int .u8 x_.f_c)))) rfl ?_)
  refine un (a2v (v := (lstV false 2 1 [x_.f_c].length)) (h' := upd _ 2 (lstB false 1 ([x_.f_c].map (eK .u8)))) (n' := 3) rfl rfl (fun h => by cases h) ?_)
  refine un (a1 (v := (S (byts [x_.f_c]))) (s_ofBytes (xs := [x_.f_c]) rfl (slc_lst rfl (List.length_map _).symm (map_nil_of (fun h => by cases h)))) ?_)
  refine un (a1 rfl ?_)
  refine dnil ?_
  refine Sv.seq ?_
  refine Sv.region ?_
  refine un (a1 (v := (.c (.ref 1 2 0 0))) rfl ?_)
  refine un (a1 (v := (.c (.val (.int .u8 x_.f_c)))) rfl ?_)
  obtain ⟨r_4, hr3, h⟩ := bnd h
  refine un (ac_pure (r4_isPlain_ok hr3) rfl rfl rfl ?_)
  refine un (a1 (v := (B (!r_4))) rfl ?_)
  refine un (a1 rfl ?_)
  refine gjoin 4 (d := 33) (v := (B ((!r_4) && (!x_.f_triple)))) (fun X hX => ?_) ?_
  ·refine split2 (fun hc3 => ?_) (fun hc3 => ?_)
   ·refine gt rfl (a1 (v := (.c (.ref 1 2 0 1))) rfl ?_)
    refine gt rfl (a1 (v := (B x_.f_triple)) rfl ?_)
    refine gt rfl (a1 (v := (B (!x_.f_triple))) rfl ?_)
    refine un (a1 (v := (B (!x_.f_triple))) rfl ?_)
    refine dnil ?_
    exact hX _ (.putEq (by rw [hc3]; rfl) (.skip _ _ (.skip _ _ (.skip _ _ (.putEq (by rw [hc3]) (.refl _)) rfl) rfl) rfl))
   ·refine gs rfl rfl ?_
    refine gs rfl rfl ?_
    refine gs rfl rfl ?_
    refine un (a1 (v := (B false)) rfl ?_)
    refine dnil ?_
    exact hX _ (.putEq (by rw [hc3]; rfl) (.skip _ _ (.skip _ _ (.skip _ _ (.putEq (by rw [hc3]) (.refl _)) rfl) rfl) rfl))
  refine un (a1 rfl ?_)
  refine gjoin 4 (d := 38) (v := (B (((!r_4) && (!x_.f_triple)) && (decide (x_.f_c < 128))))) (fun X hX => ?_) ?_
  ·refine split2 (fun hc4 => ?_) (fun hc4 => ?_)
   ·refine gt rfl (a1 (v := (.c (.ref 1 2 0 0))) rfl ?_)
    refine gt rfl (a1 (v := (.c (.val (.int .u8 x_.f_c)))) rfl ?_)
    refine gt rfl (a1 (v := (B (decide (x_.f_c < 128)))) rfl ?_)
    refine un (a1 (v := (B (decide (x_.f_c < 128)))) rfl ?_)
    refine dnil ?_
    exact hX _ (.putEq (by rw [hc4]; rfl) (.skip _ _ (.skip _ _ (.skip _ _ (.putEq (by rw [hc4]) (.refl _)) rfl) rfl) rfl))
   ·refine gs rfl rfl ?_
    refine gs rfl rfl ?_
    refine gs rfl rfl ?_
    refine un (a1 (v := (B false)) rfl ?_)
    refine dnil ?_
    exact hX _ (.putEq (by rw [hc4]; rfl) (.skip _ _ (.skip _ _ (.skip _ _ (.putEq (by rw [hc4]) (.refl _)) rfl) rfl) rfl))
  refine un (a1 rfl ?_)
  refine split2 (fun hc5 => ?_) (fun hc5 => ?_)
  ·replace h := ifT hc5 h
   refine gt rfl (a1 rfl ?_)
   obtain ⟨r_5, hr4, h⟩ := bnd h
   refine gt rfl (ac_pure (strings_Contains_ok hr4) rfl rfl rfl ?_)
   refine un (a1 (v := (B r_5)) rfl ?_)
   refine dnil ?_
   exact Sv.weak (weak_canon [0] rfl (by decide) (by decide) nlz (.cons rfl (avAs_free rfl) (.cons rfl (avAs_free rfl) (.cons rfl (avAs_free rfl) (.cons rfl (.c (lstC_ren rfl (by decide))) (.cons rfl (avAs_free rfl) (.cons rfl (avAs_free rfl) (.cons rfl (avAs_free rfl) .nil))))))) (.row (by decide) rfl (fr_map fun _ => rfl) .nil)) (r4_Cleaned_j12_ok hzv15 h hself hK0 hr)
  ·replace h := ifF hc5 h
   refine gs rfl rfl ?_
   refine gs rfl rfl ?_
   refine un (a1 (v := (B false)) rfl ?_)
   refine dnil ?_
   exact Sv.weak (weak_canon [0] rfl (by decide) (by decide) nlz (.cons rfl (avAs_free rfl) (.cons rfl (avAs_free rfl) (.cons rfl (avAs_free rfl) (.cons rfl (.c (lstC_ren rfl (by decide))) (.cons rfl (avAs_free rfl) (.cons rfl (avAs_free rfl) (.cons rfl (avAs_free rfl) .nil))))))) (.row (by decide) rfl (fr_map fun _ => rfl) .nil)) (r4_Cleaned_j12_ok hzv15 h hself hK0 hr)
 ·replace h := ifF hc1 h
  refine Sv.exit ?_
  exact hK0 out h _ (weak_canon [] rfl (by decide) (by decide) nlz (.cons rfl (avAs_free rfl) (.cons rfl (avAs_free rfl) .nil)) .nil)
/-- clerestory/clerestoryref4.Cleaned -/
noncomputable def r4_Cleaned (s_ : (List UInt8)) : Option ((List UInt8) × Bool) :=
 (r4_units s_).bind fun r_ =>
 lim fun kk => r4_Cleaned_l0 r_ (fun (out1 : (List UInt8)) => 
   some (out1, r_.2)) kk [] r_.1 0
theorem r4_Cleaned_ok {mL : Int} {s_ : (List UInt8)} {r : ((List UInt8) × Bool)} (h : r4_Cleaned s_ = some r) : CPure Tryz.prog (GG mL) 61 [(S s_)] (.tup [(S r.1), (B r.2)]) := by
 refine acalls_of_sv hmix c61 (R := r4_Cleaned_post r) ?_
 unfold r4_Cleaned at h
 refine Sv.seq ?_
 refine Sv.region ?_
 refine un (a1 rfl ?_)
 refine un (a1 rfl ?_)
 refine dnil ?_
 refine Sv.seq ?_
 refine Sv.region ?_
 refine un (a1 rfl ?_)
 obtain ⟨r_, hr1, h⟩ := bnd h
 refine un (ac_gen (bs := []) («as» := [(S s_)]) (h2 := _) (h1 := (fun _ => none)) (r4_units_ok hr1) rfl (.cons (avAs_free rfl) .nil) (hsub_refl _) (.nil _) (fun _ => rfl) (by decide) (by decide) (.cons (avAs_free rfl) .nil) .nil ?_)
 rintro _ _ _ hn ⟨z_, hz_, rfl, rfl, rfl⟩
 refine ⟨.inl rfl, (upd (rem [] _) 0 (lstB z_ 2 (r_.1.map e_Tunit))), fun hbd => (m3_cons (m3_row rfl (fr_map fun _ => rfl)) (m3_rem (in_nil _) (.cons (by decide) .nil) hbd)), (.tup [(lstV z_ 0 2 r_.1.length), (B r_.2)]), 1, (by cases z_ <;> rfl), rfl, ?_⟩
 refine un (a1 rfl ?_)
 refine un (a1 (v := (lstV z_ 0 2 r_.1.length)) rfl ?_)
 refine un (a1 (v := (B r_.2)) rfl ?_)
 refine un (a1 rfl ?_)
 refine un (a1 rfl ?_)
 refine dnil ?_
 refine Sv.seq ?_
 refine Sv.region ?_
 refine un (a1 rfl ?_)
 refine dnil ?_
 refine Sv.seq ?_
 refine Sv.seq ?_
 refine Sv.region ?_
 refine un (a1 rfl ?_)
 refine un (a1 (v := (I (r_.1.length : Int))) (s_lenL rfl (len_nil_of hz_)) ?_)
 refine un (a1 rfl ?_)
 refine dnil ?_
 refine Sv.block ?_
 obtain ⟨kk, h⟩ := lim_some h
 refine Sv.weak (weak_canon [0] rfl (by decide) (by decide) nlz (.cons rfl (avAs_free rfl) (.cons rfl (avAs_free rfl) (.cons rfl (.c (lstC_ren rfl (by decide))) (.cons rfl (avAs_free rfl) (.cons rfl (avAs_free rfl) .nil))))) (.row (by decide) rfl (fr_map fun _ => rfl) .nil)) (r4_Cleaned_l0_ok hz_ h ?_ (fun s hs => hs))
 ·intro out1 h _ hw1
  refine Sv.weak hw1 ?_
  refine Sv.seq ?_
  refine Sv.region ?_
  refine un (a1 rfl ?_)
  refine un (a1 rfl ?_)
  refine un (a1 rfl ?_)
  refine un (a1 rfl ?_)
  refine dnil ?_
  refine Sv.ret ?_
  replace h := Option.some.inj h
  subst h
  exact ⟨_, .refl _, _, rfl, ⟨upd (fun _ => none) 0 (some (.tup [(S out1), (B r_.2)])), (fun _ => none), 0⟩, (.tup [(S out1), (B r_.2)]), weak_canon [] rfl List.nodup_nil (Nat.le_refl _) nlz (.cons rfl (avAs_tup (.cons (avAs_free rfl) (.cons (avAs_free rfl) .nil))) .nil) .nil, rfl, rfl, rfl, rfl⟩
end Go.Proofs.YtjicgjhhiallkaaGreatDoorBv
-- squeezed
