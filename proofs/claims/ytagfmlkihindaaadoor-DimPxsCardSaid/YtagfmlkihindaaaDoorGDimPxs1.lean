/- Printed by a program of mine (bgen.py): plain functions, and the walks that show that the code comes to what they answer. -/
import Derived.Test.YtagfmlkihindaaaDoorGDimPxs0
namespace Go.Proofs.YtagfmlkihindaaaDoorBv
open Go
set_option linter.unusedVariables false
set_option maxRecDepth 100000
def a66_c0 : ACode := (.cond (.tmp 25) (.seq (.region [⟨(some 26), (.build [(.val (.int .i64 0)), (.str [])] []), none⟩, ⟨none, (.store 2 (.tmp 2) (.tmp 26)), none⟩, ⟨(some 3), (.mov (.const (.c (.val (.int .i64 4))))), none⟩])
 .ret) .skip)
def a66_c1 : ACode := (.seq (.drawn (.fin [(⟨(some 27), (.mov (.tmp 4)), none⟩, (0, 0)), (⟨(some 28), (.iaddr 4 (.tmp 27) (.const (.c (.val (.int .i64 0))))), none⟩, (0, 1)), (⟨(some 29), (.faddr 3 (.tmp 28)), none⟩, (0, 2)), (⟨(some 30), (.load false 1 (.tmp 29)), none⟩, (0, 3)), (⟨(some 31), (.mov (.tmp 4)), none⟩, (0, 4)), (⟨(some 32), (.iaddr 4 (.tmp 31) (.const (.c (.val (.int .i64 0))))), none⟩, (0, 5)), (⟨(some 33), (.faddr 2 (.tmp 32)), none⟩, (0, 6)), (⟨(some 34), (.load false 1 (.tmp 33)), none⟩, (0, 7)), (⟨(some 35), (.build [(.val (.int .i64 0)), (.str [])] [(0, (1, (.tmp 30))), (1, (1, (.tmp 34)))]), none⟩, (0, 8)), (⟨none, (.store 2 (.tmp 2) (.tmp 35)), none⟩, (2, 9)), (⟨(some 3), (.mov (.const (.c (.val (.int .i64 0))))), none⟩, (0, 10))]))
 .ret)
def a66 : AFunc := ⟨1, [(.cell true 2 2), (.tmp 3)], (.seq (.region [⟨(some 2), (.box (.const (.agg [(.val (.int .i64 0)), (.str [])]))), none⟩, ⟨(some 3), (.mov (.const (.c (.val (.int .i64 0))))), none⟩])
 (.seq (.region [⟨(some 5), (.mov (.tmp 0)), none⟩, ⟨(some 6), (.call 112 [(.tmp 5)]), none⟩, ⟨(some 4), (.mov (.tmp 6)), none⟩])
 (.seq (.seq (.drawn (.fin [(⟨(some 7), (.mov (.tmp 4)), none⟩, (0, 0)), (⟨(some 8), (.len (.tmp 7)), none⟩, (0, 1)), (⟨(some 9), (.bin .neq (.tmp 8) (.const (.c (.val (.int .i64 1))))), none⟩, (0, 2)), (⟨(some 10), (.mov (.tmp 9)), none⟩, (0, 3)), (⟨(some 11), (.mov (.tmp 4)), (some (10, false))⟩, (0, 4)), (⟨(some 12), (.iaddr 4 (.tmp 11) (.const (.c (.val (.int .i64 0))))), (some (10, false))⟩, (0, 5)), (⟨(some 13), (.faddr 0 (.tmp 12)), (some (10, false))⟩, (0, 6)), (⟨(some 14), (.load false 1 (.tmp 13)), (some (10, false))⟩, (0, 7)), (⟨(some 15), (.bin .neq (.tmp 14) (.const (.c (.val (.int .i64 7))))), (some (10, false))⟩, (0, 8)), (⟨(some 16), (.pick (.tmp 10) (.const (.c (.val (.bool true)))) (.tmp 15)), none⟩, (0, 9)), (⟨(some 17), (.mov (.tmp 16)), none⟩, (0, 10)), (⟨(some 18), (.load false 1 (.glob 1)), (some (17, false))⟩, (0, 11)), (⟨(some 19), (.mov (.tmp 4)), (some (17, false))⟩, (0, 12)), (⟨(some 20), (.iaddr 4 (.tmp 19) (.const (.c (.val (.int .i64 0))))), (some (17, false))⟩, (0, 13)), (⟨(some 21), (.faddr 2 (.tmp 20)), (some (17, false))⟩, (0, 14)), (⟨(some 22), (.load false 1 (.tmp 21)), (some (17, false))⟩, (0, 15)), (⟨(some 23), (.call 113 [(.tmp 18), (.tmp 22)]), (some (17, false))⟩, (2, 16)), (⟨(some 24), (.un .not (.tmp 23)), (some (17, false))⟩, (0, 17)), (⟨(some 25), (.pick (.tmp 17) (.const (.c (.val (.bool true)))) (.tmp 24)), none⟩, (0, 18))]))
 a66_c0)
 a66_c1)))⟩
set_option maxRecDepth 100000 in
theorem c66 : compFunc Tryd.prog 66 = some a66 := by kernel_rfl
def dim_Read_post (r : (TSDim × Int)) : AV → Heap → Nat → Prop := fun v h' n' => v = (.tup [(.agg [cI r.1.Num, .str r.1.Unit]), (I r.2)]) ∧ (h' = (fun _ => none)) ∧ n' = 0
abbrev dim_Read_q0 (mL : Int) (o : (TSDim × Int)) : AExit → St → Prop := AThen (Sv Tryd.prog (GG mL) 0 a66_c1 (Ends a66.results 0 (dim_Read_post o))) (Ends a66.results 0 (dim_Read_post o))
noncomputable def dim_Read_j1 (l_ : (List TSToken)) (v25 : Bool) : Option (TSDim × Int) :=
  if v25 then
    some ((⟨0, []⟩ : TSDim), 4)
  else
    (at? l_ 0).bind fun x_ =>
    (at? l_ 0).bind fun x_1 =>
    some ((⟨x_.Num, x_1.Value⟩ : TSDim), 0)
theorem dim_Read_j1_ok {mL : Int} {l_ : (List TSToken)} {v25 : Bool} {zl : Bool} (hzl : zl = true → l_ = []) {o : (TSDim × Int)} (h : dim_Read_j1 l_ v25 = some o) :
    Sv Tryd.prog (GG mL) 0 a66_c0 (dim_Read_q0 mL o) ⟨(upd (upd (upd (fun _ => none) 2 (some (.c (.ref 0 2 0 0)))) 4 (some (lstV zl 1 4 l_.length))) 25 (some (B v25))), (upd (upd (fun _ => none) 0 (some (.cells 2 [[cI 0, .str []]]))) 1 (lstB zl 4 (l_.map e_TSToken))), 2⟩ := by
  unfold dim_Read_j1 at h
  refine Sv.cond (b := v25) rfl (fun hc1 => ?_) (fun hc1 => ?_)
  · replace h := ifT hc1 h
    refine Sv.seq ?_
    refine Sv.region ?_
    refine un (a1 (v := (.agg [cI 0, .str []])) rfl ?_)
    refine un (a2n (h' := upd _ 0 (some (.cells 2 [[cI 0, .str []]]))) (n' := 2) rfl rfl (fun h => by cases h) ?_)
    refine un (a1 rfl ?_)
    refine dnil ?_
    refine Sv.ret ?_
    replace h := Option.some.inj h
    subst h
    exact ⟨_, .refl _, _, rfl, ⟨upd (fun _ => none) 0 (some (.tup [(.agg [cI 0, .str []]), (I 4)])), (fun _ => none), 0⟩, (.tup [(.agg [cI 0, .str []]), (I 4)]), weak_canon [] rfl List.nodup_nil (Nat.le_refl _) (fun b h => absurd h (Nat.not_lt_zero _)) (.cons rfl (avAs_tup (.cons (avAs_free rfl) (.cons (avAs_free rfl) .nil))) .nil) .nil, rfl, rfl, rfl, rfl⟩
  · replace h := ifF hc1 h
    refine Sv.skip ?_
    refine Sv.seq ?_
    refine Sv.drawn ?_
    refine un (a1 rfl ?_)
    obtain ⟨x_, hx1, h⟩ := bnd h
    refine un (a1 (v := (.c (.ref 1 4 (0 : Int).toNat 0))) (s_iaddrL rfl rfl hzl hx1) ?_)
    refine un (a1 (v := (.c (.ref 1 4 (0 : Int).toNat 3))) rfl ?_)
    refine un (a1 (v := (I x_.Num)) (s_loadL (z := zl) (e := e_TSToken) rfl rfl hzl hx1 rfl rfl) ?_)
    refine un (a1 rfl ?_)
    obtain ⟨x_1, hx2, h⟩ := bnd h
    refine un (a1 (v := (.c (.ref 1 4 (0 : Int).toNat 0))) (s_iaddrL rfl rfl hzl hx2) ?_)
    refine un (a1 (v := (.c (.ref 1 4 (0 : Int).toNat 2))) rfl ?_)
    refine un (a1 (v := (S x_1.Value)) (s_loadL (z := zl) (e := e_TSToken) rfl rfl hzl hx2 rfl rfl) ?_)
    refine un (a1 (v := (.agg [cI x_.Num, .str x_1.Value])) rfl ?_)
    refine un (a2n (h' := upd _ 0 (some (.cells 2 [[cI x_.Num, .str x_1.Value]]))) (n' := 2) rfl rfl (fun h => by cases h) ?_)
    refine un (a1 rfl ?_)
    refine dnil ?_
    refine Sv.ret ?_
    replace h := Option.some.inj h
    subst h
    exact ⟨_, .refl _, _, rfl, ⟨upd (fun _ => none) 0 (some (.tup [(.agg [cI x_.Num, .str x_1.Value]), (I 0)])), (fun _ => none), 0⟩, (.tup [(.agg [cI x_.Num, .str x_1.Value]), (I 0)]), weak_canon [] rfl List.nodup_nil (Nat.le_refl _) (fun b h => absurd h (Nat.not_lt_zero _)) (.cons rfl (avAs_tup (.cons (avAs_free rfl) (.cons (avAs_free rfl) .nil))) .nil) .nil, rfl, rfl, rfl, rfl⟩
/-- clerestory/dim.Read -/
noncomputable def dim_Read (s_ : (List UInt8)) : Option (TSDim × Int) :=
  (csstok_Cut s_).bind fun r_ =>
  if (!decide ((r_.length : Int) = 1)) then
    dim_Read_j1 r_ true
  else
    (at? r_ 0).bind fun x_2 =>
    if (!decide (x_2.Kind = 7)) then
      dim_Read_j1 r_ true
    else
      (at? r_ 0).bind fun x_3 =>
      (slices_Contains_string gl0 x_3.Value).bind fun r_1 =>
      dim_Read_j1 r_ (!r_1)
theorem dim_Read_ok {mL : Int} {s_ : (List UInt8)} {r : (TSDim × Int)} (h : dim_Read s_ = some r) : CPure Tryd.prog (GG mL) 66 [(S s_)] (.tup [(.agg [cI r.1.Num, .str r.1.Unit]), (I r.2)]) := by
  refine acalls_of_sv hmix c66 (R := dim_Read_post r) ?_
  unfold dim_Read at h
  refine Sv.seq ?_
  refine Sv.region ?_
  refine un (a2v (v := (.c (.ref 0 2 0 0))) (h' := upd _ 0 (some (.cells 2 [[cI 0, .str []]]))) (n' := 1) rfl rfl (fun h => by cases h) ?_)
  refine un (a1 rfl ?_)
  refine dnil ?_
  refine Sv.seq ?_
  refine Sv.region ?_
  refine un (a1 rfl ?_)
  obtain ⟨r_, hr1, h⟩ := bnd h
  refine un (ac_gen (bs := []) («as» := [(S s_)]) (h2 := _) (h1 := (fun _ => none)) (csstok_Cut_ok hr1) rfl (.cons (avAs_free rfl) .nil) (hsub_refl _) (.nil _) (fun _ => rfl) (by decide) (by decide) (.cons (avAs_free rfl) .nil) .nil ?_)
  rintro _ _ _ hn ⟨z_, hz_, rfl, rfl, rfl⟩
  refine ⟨.inl rfl, (upd (rem [] _) 1 (lstB z_ 4 (r_.map e_TSToken))), fun hbd => (m3_cons (m3_row rfl (fr_map fun _ => rfl)) (m3_rem (in_nil _) (.cons (by decide) .nil) hbd)), (lstV z_ 1 4 r_.length), 2, (by cases z_ <;> rfl), rfl, ?_⟩
  refine un (a1 rfl ?_)
  refine dnil ?_
  refine Sv.seq ?_
  refine Sv.seq ?_
  refine Sv.drawn ?_
  refine un (a1 rfl ?_)
  refine un (a1 (v := (I (r_.length : Int))) (s_lenL rfl (len_nil_of hz_)) ?_)
  refine un (a1 (v := (B (!decide ((r_.length : Int) = 1)))) rfl ?_)
  refine un (a1 rfl ?_)
  refine split2 (fun hc2 => ?_) (fun hc2 => ?_)
  · replace h := ifT hc2 h
    refine gs rfl rfl ?_
    refine gs rfl rfl ?_
    refine gs rfl rfl ?_
    refine gs rfl rfl ?_
    refine gs rfl rfl ?_
    refine un (a1 (v := (B true)) rfl ?_)
    refine un (a1 rfl ?_)
    refine gs rfl rfl ?_
    refine gs rfl rfl ?_
    refine gs rfl rfl ?_
    refine gs rfl rfl ?_
    refine gs rfl rfl ?_
    refine gs rfl rfl ?_
    refine gs rfl rfl ?_
    refine un (a1 (v := (B true)) rfl ?_)
    refine dnil ?_
    exact Sv.weak (weak_canon [0, 1] rfl (by decide) (by decide) (fun b h => absurd h (Nat.not_lt_zero _)) (.cons rfl (avAs_free rfl) (.cons rfl (.c (lstC_ren rfl (by decide))) (.cons rfl (.c (.ref rfl (by decide))) .nil))) (.row (by decide) rfl (fr_map fun _ => rfl) (.box (by decide) rfl (blkAs_cells (.cons (.same rfl) (.cons (.same rfl) .nil))) .nil))) (dim_Read_j1_ok hz_ h)
  · replace h := ifF hc2 h
    refine gt rfl (a1 rfl ?_)
    obtain ⟨x_2, hx3, h⟩ := bnd h
    refine gt rfl (a1 (v := (.c (.ref 1 4 (0 : Int).toNat 0))) (s_iaddrL rfl rfl hz_ hx3) ?_)
    refine gt rfl (a1 (v := (.c (.ref 1 4 (0 : Int).toNat 0))) rfl ?_)
    refine gt rfl (a1 (v := (I x_2.Kind)) (s_loadL (z := z_) (e := e_TSToken) rfl rfl hz_ hx3 rfl rfl) ?_)
    refine gt rfl (a1 (v := (B (!decide (x_2.Kind = 7)))) rfl ?_)
    refine un (a1 (v := (B (!decide (x_2.Kind = 7)))) rfl ?_)
    refine un (a1 rfl ?_)
    refine split2 (fun hc3 => ?_) (fun hc3 => ?_)
    · replace h := ifT hc3 h
      refine gs rfl rfl ?_
      refine gs rfl rfl ?_
      refine gs rfl rfl ?_
      refine gs rfl rfl ?_
      refine gs rfl rfl ?_
      refine gs rfl rfl ?_
      refine gs rfl rfl ?_
      refine un (a1 (v := (B true)) rfl ?_)
      refine dnil ?_
      exact Sv.weak (weak_canon [0, 1] rfl (by decide) (by decide) (fun b h => absurd h (Nat.not_lt_zero _)) (.cons rfl (avAs_free rfl) (.cons rfl (.c (lstC_ren rfl (by decide))) (.cons rfl (.c (.ref rfl (by decide))) .nil))) (.row (by decide) rfl (fr_map fun _ => rfl) (.box (by decide) rfl (blkAs_cells (.cons (.same rfl) (.cons (.same rfl) .nil))) .nil))) (dim_Read_j1_ok hz_ h)
    · replace h := ifF hc3 h
      refine gt rfl (a1 (v := (.c (.ro false 1 (gl0.map eStr)))) rfl ?_)
      refine gt rfl (a1 rfl ?_)
      obtain ⟨x_3, hx4, h⟩ := bnd h
      refine gt rfl (a1 (v := (.c (.ref 1 4 (0 : Int).toNat 0))) (s_iaddrL rfl rfl hz_ hx4) ?_)
      refine gt rfl (a1 (v := (.c (.ref 1 4 (0 : Int).toNat 2))) rfl ?_)
      refine gt rfl (a1 (v := (S x_3.Value)) (s_loadL (z := z_) (e := e_TSToken) rfl rfl hz_ hx4 rfl rfl) ?_)
      obtain ⟨r_1, hr2, h⟩ := bnd h
      refine gt rfl (ac_pure (slices_Contains_string_ok hr2) rfl rfl rfl ?_)
      refine gt rfl (a1 (v := (B (!r_1))) rfl ?_)
      refine un (a1 (v := (B (!r_1))) rfl ?_)
      refine dnil ?_
      exact Sv.weak (weak_canon [0, 1] rfl (by decide) (by decide) (fun b h => absurd h (Nat.not_lt_zero _)) (.cons rfl (avAs_free rfl) (.cons rfl (.c (lstC_ren rfl (by decide))) (.cons rfl (.c (.ref rfl (by decide))) .nil))) (.row (by decide) rfl (fr_map fun _ => rfl) (.box (by decide) rfl (blkAs_cells (.cons (.same rfl) (.cons (.same rfl) .nil))) .nil))) (dim_Read_j1_ok hz_ h)
def a28 : AFunc := ⟨0, [(.tmp 0)], (.seq (.region [⟨(some 0), (.mov (.const (.c (.val (.bool false))))), none⟩])
 (.seq (.region [⟨(some 4), (.call 66 [(.const (.c (.str [49, 46, 53, 48, 101, 109])))]), none⟩, ⟨(some 3), (.mov (.tmp 4)), none⟩, ⟨(some 5), (.ext (.tmp 3) 0), none⟩, ⟨(some 6), (.ext (.tmp 3) 1), none⟩, ⟨(some 1), (.box (.const (.agg [(.val (.int .i64 0)), (.str [])]))), none⟩, ⟨none, (.store 2 (.tmp 1) (.tmp 5)), none⟩, ⟨(some 2), (.mov (.tmp 6)), none⟩])
 (.seq (.region [⟨(some 7), (.mov (.tmp 2)), none⟩, ⟨(some 8), (.bin .eql (.tmp 7) (.const (.c (.val (.int .i64 0))))), none⟩, ⟨(some 9), (.mov (.tmp 8)), none⟩, ⟨(some 10), (.load true 2 (.tmp 1)), (some (9, true))⟩, ⟨(some 11), (.build [(.val (.int .i64 0)), (.str [])] [(0, (1, (.const (.c (.val (.int .i64 1500)))))), (1, (1, (.const (.c (.str [101, 109])))))]), (some (9, true))⟩, ⟨(some 12), (.eqs false true [.i, .s] (.tmp 10) (.tmp 11)), (some (9, true))⟩, ⟨(some 13), (.pick (.tmp 9) (.tmp 12) (.const (.c (.val (.bool false))))), none⟩, ⟨(some 0), (.mov (.tmp 13)), none⟩])
 .ret)))⟩
set_option maxRecDepth 100000 in
theorem c28 : compFunc Tryd.prog 28 = some a28 := by kernel_rfl
def clerestorylaw2_half_post (r : Bool) : AV → Heap → Nat → Prop := fun v h' n' => v = (B r) ∧ (h' = (fun _ => none)) ∧ n' = 0
/-- clerestory/clerestorylaw2.half -/
noncomputable def clerestorylaw2_half : Option Bool :=
  (dim_Read [49, 46, 53, 48, 101, 109]).bind fun r_ =>
  some ((decide (r_.2 = 0)) && (decide (r_.1.Num = 1500) && (decide (r_.1.Unit = [101, 109]) && true)))
theorem clerestorylaw2_half_ok {mL : Int} {r : Bool} (h : clerestorylaw2_half = some r) : CPure Tryd.prog (GG mL) 28 [] (B r) := by
  refine acalls_of_sv hmix c28 (R := clerestorylaw2_half_post r) ?_
  unfold clerestorylaw2_half at h
  refine Sv.seq ?_
  refine Sv.region ?_
  refine un (a1 rfl ?_)
  refine dnil ?_
  refine Sv.seq ?_
  refine Sv.region ?_
  obtain ⟨r_, hr1, h⟩ := bnd h
  refine un (ac_pure (dim_Read_ok hr1) rfl rfl rfl ?_)
  refine un (a1 rfl ?_)
  refine un (a1 (v := (.agg [cI r_.1.Num, .str r_.1.Unit])) rfl ?_)
  refine un (a1 (v := (I r_.2)) rfl ?_)
  refine un (a2v (v := (.c (.ref 0 2 0 0))) (h' := upd _ 0 (some (.cells 2 [[cI 0, .str []]]))) (n' := 1) rfl rfl (fun h => by cases h) ?_)
  refine un (a2n (h' := upd _ 0 (some (.cells 2 [[cI r_.1.Num, .str r_.1.Unit]]))) (n' := 1) rfl rfl (fun h => by cases h) ?_)
  refine un (a1 rfl ?_)
  refine dnil ?_
  refine Sv.seq ?_
  refine Sv.region ?_
  refine un (a1 rfl ?_)
  refine un (a1 (v := (B (decide (r_.2 = 0)))) rfl ?_)
  refine un (a1 rfl ?_)
  refine gjoin 4 (d := 13) (v := (B ((decide (r_.2 = 0)) && (decide (r_.1.Num = 1500) && (decide (r_.1.Unit = [101, 109]) && true))))) (fun X hX => ?_) ?_
  · refine split2 (fun hc1 => ?_) (fun hc1 => ?_)
    · refine gt rfl (a1 (v := (.agg [cI r_.1.Num, .str r_.1.Unit])) rfl ?_)
      refine gt rfl (a1 (v := (.agg [cI 1500, .str [101, 109]])) rfl ?_)
      refine gt rfl (a1 (v := (B (decide (r_.1.Num = 1500) && (decide (r_.1.Unit = [101, 109]) && true)))) rfl ?_)
      refine un (a1 (v := (B (decide (r_.1.Num = 1500) && (decide (r_.1.Unit = [101, 109]) && true)))) rfl ?_)
      refine dnil ?_
      exact hX _ (.putEq (by rw [hc1]; rfl) (.skip _ _ (.skip _ _ (.skip _ _ (.putEq (by rw [hc1]) (.refl _)) rfl) rfl) rfl))
    · refine gs rfl rfl ?_
      refine gs rfl rfl ?_
      refine gs rfl rfl ?_
      refine un (a1 (v := (B false)) rfl ?_)
      refine dnil ?_
      exact hX _ (.putEq (by rw [hc1]; rfl) (.skip _ _ (.skip _ _ (.skip _ _ (.putEq (by rw [hc1]) (.refl _)) rfl) rfl) rfl))
  refine un (a1 rfl ?_)
  refine dnil ?_
  refine Sv.ret ?_
  replace h := Option.some.inj h
  subst h
  exact ⟨_, .refl _, _, rfl, ⟨upd (fun _ => none) 0 (some (B ((decide (r_.2 = 0)) && (decide (r_.1.Num = 1500) && (decide (r_.1.Unit = [101, 109]) && true))))), (fun _ => none), 0⟩, (B ((decide (r_.2 = 0)) && (decide (r_.1.Num = 1500) && (decide (r_.1.Unit = [101, 109]) && true)))), weak_canon [] rfl List.nodup_nil (Nat.le_refl _) (fun b h => absurd h (Nat.not_lt_zero _)) (.cons rfl (avAs_free rfl) .nil) .nil, rfl, rfl, rfl, rfl⟩
def a67 : AFunc := ⟨3, [(.tmp 6)], (.seq (.region [⟨(some 6), (.mov (.const (.c (.val (.bool false))))), none⟩])
 (.seq (.region [⟨(some 7), (.mov (.tmp 0)), none⟩, ⟨(some 8), (.mov (.tmp 1)), none⟩, ⟨(some 9), (.bin .geq (.tmp 7) (.tmp 8)), none⟩, ⟨(some 10), (.mov (.tmp 9)), none⟩, ⟨(some 11), (.mov (.tmp 0)), (some (10, true))⟩, ⟨(some 12), (.mov (.tmp 2)), (some (10, true))⟩, ⟨(some 13), (.bin .leq (.tmp 11) (.tmp 12)), (some (10, true))⟩, ⟨(some 14), (.pick (.tmp 10) (.tmp 13) (.const (.c (.val (.bool false))))), none⟩, ⟨(some 6), (.mov (.tmp 14)), none⟩])
 .ret))⟩
set_option maxRecDepth 100000 in
theorem c67 : compFunc Tryd.prog 67 = some a67 := by kernel_rfl
def dim_in_post (r : Bool) : AV → Heap → Nat → Prop := fun v h' n' => v = (B r) ∧ (h' = (fun _ => none)) ∧ n' = 0
/-- clerestory/dim.in -/
def dim_in (n_ : Int) (low : Int) (high : Int) : Bool :=
  ((decide (low ≤ n_)) && (decide (n_ ≤ high)))
theorem dim_in_ok {mL : Int} (n_ : Int) (low : Int) (high : Int) : CPure Tryd.prog (GG mL) 67 [(I n_), (I low), (I high)] (B (dim_in n_ low high)) := by
  generalize h : dim_in n_ low high = o
  refine acalls_of_sv hmix c67 (R := dim_in_post o) ?_
  unfold dim_in at h
  refine Sv.seq ?_
  refine Sv.region ?_
  refine un (a1 rfl ?_)
  refine dnil ?_
  refine Sv.seq ?_
  refine Sv.region ?_
  refine un (a1 rfl ?_)
  refine un (a1 rfl ?_)
  refine un (a1 (v := (B (decide (low ≤ n_)))) rfl ?_)
  refine un (a1 rfl ?_)
  refine gjoin 4 (d := 14) (v := (B ((decide (low ≤ n_)) && (decide (n_ ≤ high))))) (fun X hX => ?_) ?_
  · refine split2 (fun hc1 => ?_) (fun hc1 => ?_)
    · refine gt rfl (a1 rfl ?_)
      refine gt rfl (a1 rfl ?_)
      refine gt rfl (a1 (v := (B (decide (n_ ≤ high)))) rfl ?_)
      refine un (a1 (v := (B (decide (n_ ≤ high)))) rfl ?_)
      refine dnil ?_
      exact hX _ (.putEq (by rw [hc1]; rfl) (.skip _ _ (.skip _ _ (.skip _ _ (.putEq (by rw [hc1]) (.refl _)) rfl) rfl) rfl))
    · refine gs rfl rfl ?_
      refine gs rfl rfl ?_
      refine gs rfl rfl ?_
      refine un (a1 (v := (B false)) rfl ?_)
      refine dnil ?_
      exact hX _ (.putEq (by rw [hc1]; rfl) (.skip _ _ (.skip _ _ (.skip _ _ (.putEq (by rw [hc1]) (.refl _)) rfl) rfl) rfl))
  refine un (a1 rfl ?_)
  refine dnil ?_
  refine Sv.ret ?_
  subst h
  exact ⟨_, .refl _, _, rfl, ⟨upd (fun _ => none) 0 (some (B ((decide (low ≤ n_)) && (decide (n_ ≤ high))))), (fun _ => none), 0⟩, (B ((decide (low ≤ n_)) && (decide (n_ ≤ high)))), weak_canon [] rfl List.nodup_nil (Nat.le_refl _) (fun b h => absurd h (Nat.not_lt_zero _)) (.cons rfl (avAs_free rfl) .nil) .nil, rfl, rfl, rfl, rfl⟩
def a69_c0 : ACode := (.seq (.region [⟨(some 15), (.mov (.tmp 5)), none⟩, ⟨(some 4), (.mov (.tmp 15)), none⟩])
 .ret)
def a69 : AFunc := ⟨2, [(.tmp 4)], (.seq (.region [⟨(some 4), (.mov (.const (.c (.val (.int .i64 0))))), none⟩])
 (.seq (.region [⟨(some 6), (.mov (.tmp 0)), none⟩, ⟨(some 7), (.mov (.tmp 1)), none⟩, ⟨(some 8), (.bin .quo (.tmp 6) (.tmp 7)), none⟩, ⟨(some 5), (.mov (.tmp 8)), none⟩])
 (.seq (.seq (.region [⟨(some 9), (.mov (.tmp 0)), none⟩, ⟨(some 10), (.mov (.tmp 1)), none⟩, ⟨(some 11), (.bin .rem (.tmp 9) (.tmp 10)), none⟩, ⟨(some 12), (.bin .lss (.tmp 11) (.const (.c (.val (.int .i64 0))))), none⟩])
 (.cond (.tmp 12) (.region [⟨(some 13), (.mov (.tmp 5)), none⟩, ⟨(some 14), (.bin .sub (.tmp 13) (.const (.c (.val (.int .i64 1))))), none⟩, ⟨(some 5), (.mov (.tmp 14)), none⟩]) .skip))
 a69_c0)))⟩
set_option maxRecDepth 100000 in
theorem c69 : compFunc Tryd.prog 69 = some a69 := by kernel_rfl
def dim_down_post (r : Int) : AV → Heap → Nat → Prop := fun v h' n' => v = (I r) ∧ (h' = (fun _ => none)) ∧ n' = 0
noncomputable def dim_down_j1 (q_ : Int) : Option Int :=
  some q_
theorem dim_down_j1_ok {mL : Int} {q_ : Int} {o : Int} (h : dim_down_j1 q_ = some o) :
    Sv Tryd.prog (GG mL) 0 a69_c0 (Ends a69.results 0 (dim_down_post o)) ⟨(upd (fun _ => none) 5 (some (I q_))), (fun _ => none), 0⟩ := by
  unfold dim_down_j1 at h
  refine Sv.seq ?_
  refine Sv.region ?_
  refine un (a1 rfl ?_)
  refine un (a1 rfl ?_)
  refine dnil ?_
  refine Sv.ret ?_
  replace h := Option.some.inj h
  subst h
  exact ⟨_, .refl _, _, rfl, ⟨upd (fun _ => none) 0 (some (I q_)), (fun _ => none), 0⟩, (I q_), weak_canon [] rfl List.nodup_nil (Nat.le_refl _) (fun b h => absurd h (Nat.not_lt_zero _)) (.cons rfl (avAs_free rfl) .nil) .nil, rfl, rfl, rfl, rfl⟩
/-- clerestory/dim.down -/
noncomputable def dim_down (n_ : Int) (by_ : Int) : Option Int :=
  (quo? .i64 n_ by_).bind fun r_ =>
  (rem? .i64 n_ by_).bind fun r_1 =>
  if decide (r_1 < 0) then
    dim_down_j1 (wi (r_ - 1))
  else
    dim_down_j1 r_
theorem dim_down_ok {mL : Int} {n_ : Int} {by_ : Int} {r : Int} (h : dim_down n_ by_ = some r) : CPure Tryd.prog (GG mL) 69 [(I n_), (I by_)] (I r) := by
  refine acalls_of_sv hmix c69 (R := dim_down_post r) ?_
  unfold dim_down at h
  refine Sv.seq ?_
  refine Sv.region ?_
  refine un (a1 rfl ?_)
  refine dnil ?_
  refine Sv.seq ?_
  refine Sv.region ?_
  refine un (a1 rfl ?_)
  refine un (a1 rfl ?_)
  obtain ⟨r_, hx1, h⟩ := bnd h
  refine un (a1 (v := (I r_)) (s_quo rfl rfl hx1) ?_)
  refine un (a1 rfl ?_)
  refine dnil ?_
  refine Sv.seq ?_
  refine Sv.seq ?_
  refine Sv.region ?_
  refine un (a1 rfl ?_)
  refine un (a1 rfl ?_)
  obtain ⟨r_1, hx2, h⟩ := bnd h
  refine un (a1 (v := (I r_1)) (s_rem rfl rfl hx2) ?_)
  refine un (a1 (v := (B (decide (r_1 < 0)))) rfl ?_)
  refine dnil ?_
  refine Sv.cond (b := decide (r_1 < 0)) rfl (fun hc1 => ?_) (fun hc1 => ?_)
  · replace h := ifT hc1 h
    refine Sv.region ?_
    refine un (a1 rfl ?_)
    refine un (a1 (v := (I (wi (r_ - 1)))) rfl ?_)
    refine un (a1 rfl ?_)
    refine dnil ?_
    exact Sv.weak (weak_canon [] rfl (by decide) (by decide) (fun b h => absurd h (Nat.not_lt_zero _)) (.cons rfl (avAs_free rfl) .nil) .nil) (dim_down_j1_ok h)
  · replace h := ifF hc1 h
    refine Sv.skip ?_
    exact Sv.weak (weak_canon [] rfl (by decide) (by decide) (fun b h => absurd h (Nat.not_lt_zero _)) (.cons rfl (avAs_free rfl) .nil) .nil) (dim_down_j1_ok h)
def a68 : AFunc := ⟨1, [(.tmp 2)], (.seq (.region [⟨(some 2), (.mov (.const (.c (.val (.int .i64 0))))), none⟩])
 (.seq (.region [⟨(some 3), (.mov (.tmp 0)), none⟩, ⟨(some 4), (.mm true [(.tmp 3), (.const (.c (.val (.int .i64 (-16777216)))))]), none⟩, ⟨(some 5), (.mm false [(.tmp 4), (.const (.c (.val (.int .i64 16777216))))]), none⟩, ⟨(some 2), (.mov (.tmp 5)), none⟩])
 .ret))⟩
set_option maxRecDepth 100000 in
theorem c68 : compFunc Tryd.prog 68 = some a68 := by kernel_rfl
def dim_cut_post (r : Int) : AV → Heap → Nat → Prop := fun v h' n' => v = (I r) ∧ (h' = (fun _ => none)) ∧ n' = 0
/-- clerestory/dim.cut -/
def dim_cut (n_ : Int) : Int :=
  (mn (mx n_ (-16777216)) 16777216)
theorem dim_cut_ok {mL : Int} (n_ : Int) : CPure Tryd.prog (GG mL) 68 [(I n_)] (I (dim_cut n_)) := by
  generalize h : dim_cut n_ = o
  refine acalls_of_sv hmix c68 (R := dim_cut_post o) ?_
  unfold dim_cut at h
  refine Sv.seq ?_
  refine Sv.region ?_
  refine un (a1 rfl ?_)
  refine dnil ?_
  refine Sv.seq ?_
  refine Sv.region ?_
  refine un (a1 rfl ?_)
  refine un (a1 (v := (I (mx n_ (-16777216)))) (s_mx rfl rfl) ?_)
  refine un (a1 (v := (I (mn (mx n_ (-16777216)) 16777216))) (s_mn rfl rfl) ?_)
  refine un (a1 rfl ?_)
  refine dnil ?_
  refine Sv.ret ?_
  subst h
  exact ⟨_, .refl _, _, rfl, ⟨upd (fun _ => none) 0 (some (I (mn (mx n_ (-16777216)) 16777216))), (fun _ => none), 0⟩, (I (mn (mx n_ (-16777216)) 16777216)), weak_canon [] rfl List.nodup_nil (Nat.le_refl _) (fun b h => absurd h (Nat.not_lt_zero _)) (.cons rfl (avAs_free rfl) .nil) .nil, rfl, rfl, rfl, rfl⟩
def a29_c0 : ACode := (.seq (.region [⟨(some 66), (.faddr 0 (.tmp 2)), none⟩, ⟨(some 67), (.load false 1 (.tmp 66)), none⟩, ⟨(some 68), (.mov (.tmp 6)), none⟩, ⟨(some 69), (.bin .mul (.tmp 67) (.tmp 68)), none⟩, ⟨(some 70), (.mov (.tmp 7)), none⟩, ⟨(some 71), (.call 69 [(.tmp 69), (.tmp 70)]), none⟩, ⟨(some 72), (.call 68 [(.tmp 71)]), none⟩, ⟨(some 4), (.mov (.tmp 72)), none⟩, ⟨(some 5), (.mov (.const (.c (.val (.int .i64 0))))), none⟩])
 .ret)
def a29 : AFunc := ⟨2, [(.tmp 4), (.tmp 5)], (.seq (.region [⟨(some 2), (.box (.tmp 0)), none⟩, ⟨(some 3), (.box (.tmp 1)), none⟩, ⟨(some 4), (.mov (.const (.c (.val (.int .i64 0))))), none⟩, ⟨(some 5), (.mov (.const (.c (.val (.int .i64 0))))), none⟩])
 (.seq (.seq (.region [⟨(some 8), (.faddr 0 (.tmp 2)), none⟩, ⟨(some 9), (.load false 1 (.tmp 8)), none⟩, ⟨(some 10), (.call 67 [(.tmp 9), (.const (.c (.val (.int .i64 (-1000000000))))), (.const (.c (.val (.int .i64 1000000000))))]), none⟩, ⟨(some 11), (.un .not (.tmp 10)), none⟩, ⟨(some 12), (.mov (.tmp 11)), none⟩, ⟨(some 13), (.faddr 0 (.tmp 3)), (some (12, false))⟩, ⟨(some 14), (.load false 1 (.tmp 13)), (some (12, false))⟩, ⟨(some 15), (.call 67 [(.tmp 14), (.const (.c (.val (.int .i64 0)))), (.const (.c (.val (.int .i64 16777216))))]), (some (12, false))⟩, ⟨(some 16), (.un .not (.tmp 15)), (some (12, false))⟩, ⟨(some 17), (.pick (.tmp 12) (.const (.c (.val (.bool true)))) (.tmp 16)), none⟩, ⟨(some 18), (.mov (.tmp 17)), none⟩, ⟨(some 19), (.faddr 1 (.tmp 3)), (some (18, false))⟩, ⟨(some 20), (.load false 1 (.tmp 19)), (some (18, false))⟩, ⟨(some 21), (.call 67 [(.tmp 20), (.const (.c (.val (.int .i64 0)))), (.const (.c (.val (.int .i64 16777216))))]), (some (18, false))⟩, ⟨(some 22), (.un .not (.tmp 21)), (some (18, false))⟩, ⟨(some 23), (.pick (.tmp 18) (.const (.c (.val (.bool true)))) (.tmp 22)), none⟩, ⟨(some 24), (.mov (.tmp 23)), none⟩, ⟨(some 25), (.faddr 2 (.tmp 3)), (some (24, false))⟩, ⟨(some 26), (.load false 1 (.tmp 25)), (some (24, false))⟩, ⟨(some 27), (.call 67 [(.tmp 26), (.const (.c (.val (.int .i64 1)))), (.const (.c (.val (.int .i64 4000))))]), (some (24, false))⟩, ⟨(some 28), (.un .not (.tmp 27)), (some (24, false))⟩, ⟨(some 29), (.pick (.tmp 24) (.const (.c (.val (.bool true)))) (.tmp 28)), none⟩, ⟨(some 30), (.mov (.tmp 29)), none⟩, ⟨(some 31), (.faddr 3 (.tmp 3)), (some (30, false))⟩, ⟨(some 32), (.load false 1 (.tmp 31)), (some (30, false))⟩, ⟨(some 33), (.call 67 [(.tmp 32), (.const (.c (.val (.int .i64 1)))), (.const (.c (.val (.int .i64 4000))))]), (some (30, false))⟩, ⟨(some 34), (.un .not (.tmp 33)), (some (30, false))⟩, ⟨(some 35), (.pick (.tmp 30) (.const (.c (.val (.bool true)))) (.tmp 34)), none⟩])
 (.cond (.tmp 35) (.seq (.region [⟨(some 4), (.mov (.const (.c (.val (.int .i64 0))))), none⟩, ⟨(some 5), (.mov (.const (.c (.val (.int .i64 1))))), none⟩])
 .ret) .skip))
 (.seq (.region [⟨(some 6), (.mov (.const (.c (.val (.int .i64 0))))), none⟩, ⟨(some 7), (.mov (.const (.c (.val (.int .i64 1000))))), none⟩])
 (.seq (.seq (.region [⟨(some 36), (.faddr 1 (.tmp 2)), none⟩, ⟨(some 37), (.load false 1 (.tmp 36)), none⟩])
 (.block 0 (.seq (.region [⟨(some 47), (.bin .eql (.tmp 37) (.const (.c (.str [112, 120])))), none⟩, ⟨(some 46), (.mov (.tmp 47)), none⟩])
 (.cond (.tmp 46) (.region [⟨(some 6), (.mov (.const (.c (.val (.int .i64 64))))), none⟩]) (.seq (.region [⟨(some 49), (.bin .eql (.tmp 37) (.const (.c (.str [101, 109])))), none⟩, ⟨(some 48), (.mov (.tmp 49)), none⟩])
 (.cond (.tmp 48) (.region [⟨(some 50), (.faddr 0 (.tmp 3)), none⟩, ⟨(some 51), (.load false 1 (.tmp 50)), none⟩, ⟨(some 6), (.mov (.tmp 51)), none⟩]) (.seq (.region [⟨(some 53), (.bin .eql (.tmp 37) (.const (.c (.str [114, 101, 109])))), none⟩, ⟨(some 52), (.mov (.tmp 53)), none⟩])
 (.cond (.tmp 52) (.region [⟨(some 54), (.faddr 1 (.tmp 3)), none⟩, ⟨(some 55), (.load false 1 (.tmp 54)), none⟩, ⟨(some 6), (.mov (.tmp 55)), none⟩]) (.seq (.region [⟨(some 57), (.bin .eql (.tmp 37) (.const (.c (.str [118, 119])))), none⟩, ⟨(some 56), (.mov (.tmp 57)), none⟩])
 (.cond (.tmp 56) (.region [⟨(some 58), (.faddr 2 (.tmp 3)), none⟩, ⟨(some 59), (.load false 1 (.tmp 58)), none⟩, ⟨(some 60), (.bin .mul (.const (.c (.val (.int .i64 64)))) (.tmp 59)), none⟩, ⟨(some 6), (.mov (.tmp 60)), none⟩, ⟨(some 7), (.mov (.const (.c (.val (.int .i64 100000))))), none⟩]) (.seq (.region [⟨(some 62), (.bin .eql (.tmp 37) (.const (.c (.str [118, 104])))), none⟩, ⟨(some 61), (.mov (.tmp 62)), none⟩])
 (.cond (.tmp 61) (.region [⟨(some 63), (.faddr 3 (.tmp 3)), none⟩, ⟨(some 64), (.load false 1 (.tmp 63)), none⟩, ⟨(some 65), (.bin .mul (.const (.c (.val (.int .i64 64)))) (.tmp 64)), none⟩, ⟨(some 6), (.mov (.tmp 65)), none⟩, ⟨(some 7), (.mov (.const (.c (.val (.int .i64 100000))))), none⟩]) (.seq (.region [⟨(some 38), (.faddr 1 (.tmp 2)), none⟩, ⟨(some 39), (.load false 1 (.tmp 38)), none⟩, ⟨(some 40), (.bin .neq (.tmp 39) (.const (.c (.str [])))), none⟩, ⟨(some 41), (.mov (.tmp 40)), none⟩, ⟨(some 42), (.faddr 0 (.tmp 2)), (some (41, false))⟩, ⟨(some 43), (.load false 1 (.tmp 42)), (some (41, false))⟩, ⟨(some 44), (.bin .neq (.tmp 43) (.const (.c (.val (.int .i64 0))))), (some (41, false))⟩, ⟨(some 45), (.pick (.tmp 41) (.const (.c (.val (.bool true)))) (.tmp 44)), none⟩])
 (.cond (.tmp 45) (.seq (.region [⟨(some 4), (.mov (.const (.c (.val (.int .i64 0))))), none⟩, ⟨(some 5), (.mov (.const (.c (.val (.int .i64 7))))), none⟩])
 .ret) .skip))))))))))))))
 a29_c0))))⟩
set_option maxRecDepth 100000 in
theorem c29 : compFunc Tryd.prog 29 = some a29 := by kernel_rfl
def dim_Px_post (r : (Int × Int)) : AV → Heap → Nat → Prop := fun v h' n' => v = (.tup [(I r.1), (I r.2)]) ∧ (h' = (fun _ => none)) ∧ n' = 0
noncomputable def dim_Px_j1 (d_ : TSDim) (times : Int) (by_ : Int) : Option (Int × Int) :=
  (dim_down (wi (d_.Num * times)) by_).bind fun r_ =>
  some ((dim_cut r_), 0)
theorem dim_Px_j1_ok {mL : Int} {d_ : TSDim} {times : Int} {by_ : Int} {o : (Int × Int)} (h : dim_Px_j1 d_ times by_ = some o) :
    Sv Tryd.prog (GG mL) 0 a29_c0 (Ends a29.results 0 (dim_Px_post o)) ⟨(upd (upd (upd (fun _ => none) 2 (some (.c (.ref 0 2 0 0)))) 6 (some (I times))) 7 (some (I by_))), (upd (fun _ => none) 0 (some (.cells 2 [[cI d_.Num, .str d_.Unit]]))), 1⟩ := by
  unfold dim_Px_j1 at h
  refine Sv.seq ?_
  refine Sv.region ?_
  refine un (a1 (v := (.c (.ref 0 2 0 0))) rfl ?_)
  refine un (a1 (v := (I d_.Num)) rfl ?_)
  refine un (a1 rfl ?_)
  refine un (a1 (v := (I (wi (d_.Num * times)))) rfl ?_)
  refine un (a1 rfl ?_)
  obtain ⟨r_, hr1, h⟩ := bnd h
  refine un (ac_pure (dim_down_ok hr1) rfl rfl rfl ?_)
  refine un (ac_pure (dim_cut_ok (mL := mL) r_) rfl rfl rfl ?_)
  refine un (a1 rfl ?_)
  refine un (a1 rfl ?_)
  refine dnil ?_
  refine Sv.ret ?_
  replace h := Option.some.inj h
  subst h
  exact ⟨_, .refl _, _, rfl, ⟨upd (fun _ => none) 0 (some (.tup [(I (dim_cut r_)), (I 0)])), (fun _ => none), 0⟩, (.tup [(I (dim_cut r_)), (I 0)]), weak_canon [] rfl List.nodup_nil (Nat.le_refl _) (fun b h => absurd h (Nat.not_lt_zero _)) (.cons rfl (avAs_tup (.cons (avAs_free rfl) (.cons (avAs_free rfl) .nil))) .nil) .nil, rfl, rfl, rfl, rfl⟩
/-- clerestory/dim.Px -/
noncomputable def dim_Px (d_ : TSDim) (k_ : TSScale) : Option (Int × Int) :=
  if (((((!(dim_in d_.Num (-1000000000) 1000000000)) || (!(dim_in k_.Em 0 16777216))) || (!(dim_in k_.Rem 0 16777216))) || (!(dim_in k_.Width 1 4000))) || (!(dim_in k_.Height 1 4000))) then
    some (0, 1)
  else
    if decide (d_.Unit = [112, 120]) then
      dim_Px_j1 d_ 64 1000
    else
      if decide (d_.Unit = [101, 109]) then
        dim_Px_j1 d_ k_.Em 1000
      else
        if decide (d_.Unit = [114, 101, 109]) then
          dim_Px_j1 d_ k_.Rem 1000
        else
          if decide (d_.Unit = [118, 119]) then
            dim_Px_j1 d_ (wi (64 * k_.Width)) 100000
          else
            if decide (d_.Unit = [118, 104]) then
              dim_Px_j1 d_ (wi (64 * k_.Height)) 100000
            else
              if ((!decide (d_.Unit = [])) || (!decide (d_.Num = 0))) then
                some (0, 7)
              else
                dim_Px_j1 d_ 0 1000
theorem dim_Px_ok {mL : Int} {d_ : TSDim} {k_ : TSScale} {r : (Int × Int)} (h : dim_Px d_ k_ = some r) : CPure Tryd.prog (GG mL) 29 [(.agg [cI d_.Num, .str d_.Unit]), (.agg [cI k_.Em, cI k_.Rem, cI k_.Width, cI k_.Height])] (.tup [(I r.1), (I r.2)]) := by
  refine acalls_of_sv hmix c29 (R := dim_Px_post r) ?_
  unfold dim_Px at h
  refine Sv.seq ?_
  refine Sv.region ?_
  refine un (a2v (v := (.c (.ref 0 2 0 0))) (h' := upd _ 0 (some (.cells 2 [[cI d_.Num, .str d_.Unit]]))) (n' := 1) rfl rfl (fun h => by cases h) ?_)
  refine un (a2v (v := (.c (.ref 1 4 0 0))) (h' := upd _ 1 (some (.cells 4 [[cI k_.Em, cI k_.Rem, cI k_.Width, cI k_.Height]]))) (n' := 2) rfl rfl (fun h => by cases h) ?_)
  refine un (a1 rfl ?_)
  refine un (a1 rfl ?_)
  refine dnil ?_
  refine Sv.seq ?_
  refine Sv.seq ?_
  refine Sv.region ?_
  refine un (a1 (v := (.c (.ref 0 2 0 0))) rfl ?_)
  refine un (a1 (v := (I d_.Num)) rfl ?_)
  refine un (ac_pure (dim_in_ok (mL := mL) d_.Num (-1000000000) 1000000000) rfl rfl rfl ?_)
  refine un (a1 (v := (B (!(dim_in d_.Num (-1000000000) 1000000000)))) rfl ?_)
  refine un (a1 rfl ?_)
  refine gjoin 5 (d := 17) (v := (B ((!(dim_in d_.Num (-1000000000) 1000000000)) || (!(dim_in k_.Em 0 16777216))))) (fun X hX => ?_) ?_
  · refine split2 (fun hc1 => ?_) (fun hc1 => ?_)
    · refine gs rfl rfl ?_
      refine gs rfl rfl ?_
      refine gs rfl rfl ?_
      refine gs rfl rfl ?_
      refine un (a1 (v := (B true)) rfl ?_)
      refine dnil ?_
      exact hX _ (.putEq (by rw [hc1]; rfl) (.skip _ _ (.skip _ _ (.skip _ _ (.skip _ _ (.putEq (by rw [hc1]) (.refl _)) rfl) rfl) rfl) rfl))
    · refine gt rfl (a1 (v := (.c (.ref 1 4 0 0))) rfl ?_)
      refine gt rfl (a1 (v := (I k_.Em)) rfl ?_)
      refine gt rfl (ac_pure (dim_in_ok (mL := mL) k_.Em 0 16777216) rfl rfl rfl ?_)
      refine gt rfl (a1 (v := (B (!(dim_in k_.Em 0 16777216)))) rfl ?_)
      refine un (a1 (v := (B (!(dim_in k_.Em 0 16777216)))) rfl ?_)
      refine dnil ?_
      exact hX _ (.putEq (by rw [hc1]; rfl) (.skip _ _ (.skip _ _ (.skip _ _ (.skip _ _ (.putEq (by rw [hc1]) (.refl _)) rfl) rfl) rfl) rfl))
  refine un (a1 rfl ?_)
  refine gjoin 5 (d := 23) (v := (B (((!(dim_in d_.Num (-1000000000) 1000000000)) || (!(dim_in k_.Em 0 16777216))) || (!(dim_in k_.Rem 0 16777216))))) (fun X hX => ?_) ?_
  · refine split2 (fun hc2 => ?_) (fun hc2 => ?_)
    · refine gs rfl rfl ?_
      refine gs rfl rfl ?_
      refine gs rfl rfl ?_
      refine gs rfl rfl ?_
      refine un (a1 (v := (B true)) rfl ?_)
      refine dnil ?_
      exact hX _ (.putEq (by rw [hc2]; rfl) (.skip _ _ (.skip _ _ (.skip _ _ (.skip _ _ (.putEq (by rw [hc2]) (.refl _)) rfl) rfl) rfl) rfl))
    · refine gt rfl (a1 (v := (.c (.ref 1 4 0 1))) rfl ?_)
      refine gt rfl (a1 (v := (I k_.Rem)) rfl ?_)
      refine gt rfl (ac_pure (dim_in_ok (mL := mL) k_.Rem 0 16777216) rfl rfl rfl ?_)
      refine gt rfl (a1 (v := (B (!(dim_in k_.Rem 0 16777216)))) rfl ?_)
      refine un (a1 (v := (B (!(dim_in k_.Rem 0 16777216)))) rfl ?_)
      refine dnil ?_
      exact hX _ (.putEq (by rw [hc2]; rfl) (.skip _ _ (.skip _ _ (.skip _ _ (.skip _ _ (.putEq (by rw [hc2]) (.refl _)) rfl) rfl) rfl) rfl))
  refine un (a1 rfl ?_)
  refine gjoin 5 (d := 29) (v := (B ((((!(dim_in d_.Num (-1000000000) 1000000000)) || (!(dim_in k_.Em 0 16777216))) || (!(dim_in k_.Rem 0 16777216))) || (!(dim_in k_.Width 1 4000))))) (fun X hX => ?_) ?_
  · refine split2 (fun hc3 => ?_) (fun hc3 => ?_)
    · refine gs rfl rfl ?_
      refine gs rfl rfl ?_
      refine gs rfl rfl ?_
      refine gs rfl rfl ?_
      refine un (a1 (v := (B true)) rfl ?_)
      refine dnil ?_
      exact hX _ (.putEq (by rw [hc3]; rfl) (.skip _ _ (.skip _ _ (.skip _ _ (.skip _ _ (.putEq (by rw [hc3]) (.refl _)) rfl) rfl) rfl) rfl))
    · refine gt rfl (a1 (v := (.c (.ref 1 4 0 2))) rfl ?_)
      refine gt rfl (a1 (v := (I k_.Width)) rfl ?_)
      refine gt rfl (ac_pure (dim_in_ok (mL := mL) k_.Width 1 4000) rfl rfl rfl ?_)
      refine gt rfl (a1 (v := (B (!(dim_in k_.Width 1 4000)))) rfl ?_)
      refine un (a1 (v := (B (!(dim_in k_.Width 1 4000)))) rfl ?_)
      refine dnil ?_
      exact hX _ (.putEq (by rw [hc3]; rfl) (.skip _ _ (.skip _ _ (.skip _ _ (.skip _ _ (.putEq (by rw [hc3]) (.refl _)) rfl) rfl) rfl) rfl))
  refine un (a1 rfl ?_)
  refine gjoin 5 (d := 35) (v := (B (((((!(dim_in d_.Num (-1000000000) 1000000000)) || (!(dim_in k_.Em 0 16777216))) || (!(dim_in k_.Rem 0 16777216))) || (!(dim_in k_.Width 1 4000))) || (!(dim_in k_.Height 1 4000))))) (fun X hX => ?_) ?_
  · refine split2 (fun hc4 => ?_) (fun hc4 => ?_)
    · refine gs rfl rfl ?_
      refine gs rfl rfl ?_
      refine gs rfl rfl ?_
      refine gs rfl rfl ?_
      refine un (a1 (v := (B true)) rfl ?_)
      refine dnil ?_
      exact hX _ (.putEq (by rw [hc4]; rfl) (.skip _ _ (.skip _ _ (.skip _ _ (.skip _ _ (.putEq (by rw [hc4]) (.refl _)) rfl) rfl) rfl) rfl))
    · refine gt rfl (a1 (v := (.c (.ref 1 4 0 3))) rfl ?_)
      refine gt rfl (a1 (v := (I k_.Height)) rfl ?_)
      refine gt rfl (ac_pure (dim_in_ok (mL := mL) k_.Height 1 4000) rfl rfl rfl ?_)
      refine gt rfl (a1 (v := (B (!(dim_in k_.Height 1 4000)))) rfl ?_)
      refine un (a1 (v := (B (!(dim_in k_.Height 1 4000)))) rfl ?_)
      refine dnil ?_
      exact hX _ (.putEq (by rw [hc4]; rfl) (.skip _ _ (.skip _ _ (.skip _ _ (.skip _ _ (.putEq (by rw [hc4]) (.refl _)) rfl) rfl) rfl) rfl))
  refine dnil ?_
  refine Sv.cond (b := (((((!(dim_in d_.Num (-1000000000) 1000000000)) || (!(dim_in k_.Em 0 16777216))) || (!(dim_in k_.Rem 0 16777216))) || (!(dim_in k_.Width 1 4000))) || (!(dim_in k_.Height 1 4000)))) rfl (fun hc5 => ?_) (fun hc5 => ?_)
  · replace h := ifT hc5 h
    refine Sv.seq ?_
    refine Sv.region ?_
    refine un (a1 rfl ?_)
    refine un (a1 rfl ?_)
    refine dnil ?_
    refine Sv.ret ?_
    replace h := Option.some.inj h
    subst h
    exact ⟨_, .refl _, _, rfl, ⟨upd (fun _ => none) 0 (some (.tup [(I 0), (I 1)])), (fun _ => none), 0⟩, (.tup [(I 0), (I 1)]), weak_canon [] rfl List.nodup_nil (Nat.le_refl _) (fun b h => absurd h (Nat.not_lt_zero _)) (.cons rfl (avAs_tup (.cons (avAs_free rfl) (.cons (avAs_free rfl) .nil))) .nil) .nil, rfl, rfl, rfl, rfl⟩
  · replace h := ifF hc5 h
    refine Sv.skip ?_
    refine Sv.seq ?_
    refine Sv.region ?_
    refine un (a1 rfl ?_)
    refine un (a1 rfl ?_)
    refine dnil ?_
    refine Sv.seq ?_
    refine Sv.seq ?_
    refine Sv.region ?_
    refine un (a1 (v := (.c (.ref 0 2 0 1))) rfl ?_)
    refine un (a1 (v := (S d_.Unit)) rfl ?_)
    refine dnil ?_
    refine Sv.block ?_
    refine Sv.seq ?_
    refine Sv.region ?_
    refine un (a1 (v := (B (decide (d_.Unit = [112, 120])))) rfl ?_)
    refine un (a1 rfl ?_)
    refine dnil ?_
    refine Sv.cond (b := decide (d_.Unit = [112, 120])) rfl (fun hc6 => ?_) (fun hc6 => ?_)
    · replace h := ifT hc6 h
      refine Sv.region ?_
      refine un (a1 rfl ?_)
      refine dnil ?_
      exact Sv.weak (weak_canon [0] rfl (by decide) (by decide) (fun b h => absurd h (Nat.not_lt_zero _)) (.cons rfl (avAs_free rfl) (.cons rfl (avAs_free rfl) (.cons rfl (.c (.ref rfl (by decide))) .nil))) (.box (by decide) rfl (blkAs_cells (.cons (.same rfl) (.cons (.same rfl) .nil))) .nil)) (dim_Px_j1_ok h)
    · replace h := ifF hc6 h
      refine Sv.seq ?_
      refine Sv.region ?_
      refine un (a1 (v := (B (decide (d_.Unit = [101, 109])))) rfl ?_)
      refine un (a1 rfl ?_)
      refine dnil ?_
      refine Sv.cond (b := decide (d_.Unit = [101, 109])) rfl (fun hc7 => ?_) (fun hc7 => ?_)
      · replace h := ifT hc7 h
        refine Sv.region ?_
        refine un (a1 (v := (.c (.ref 1 4 0 0))) rfl ?_)
        refine un (a1 (v := (I k_.Em)) rfl ?_)
        refine un (a1 rfl ?_)
        refine dnil ?_
        exact Sv.weak (weak_canon [0] rfl (by decide) (by decide) (fun b h => absurd h (Nat.not_lt_zero _)) (.cons rfl (avAs_free rfl) (.cons rfl (avAs_free rfl) (.cons rfl (.c (.ref rfl (by decide))) .nil))) (.box (by decide) rfl (blkAs_cells (.cons (.same rfl) (.cons (.same rfl) .nil))) .nil)) (dim_Px_j1_ok h)
      · replace h := ifF hc7 h
        refine Sv.seq ?_
        refine Sv.region ?_
        refine un (a1 (v := (B (decide (d_.Unit = [114, 101, 109])))) rfl ?_)
        refine un (a1 rfl ?_)
        refine dnil ?_
        refine Sv.cond (b := decide (d_.Unit = [114, 101, 109])) rfl (fun hc8 => ?_) (fun hc8 => ?_)
        · replace h := ifT hc8 h
          refine Sv.region ?_
          refine un (a1 (v := (.c (.ref 1 4 0 1))) rfl ?_)
          refine un (a1 (v := (I k_.Rem)) rfl ?_)
          refine un (a1 rfl ?_)
          refine dnil ?_
          exact Sv.weak (weak_canon [0] rfl (by decide) (by decide) (fun b h => absurd h (Nat.not_lt_zero _)) (.cons rfl (avAs_free rfl) (.cons rfl (avAs_free rfl) (.cons rfl (.c (.ref rfl (by decide))) .nil))) (.box (by decide) rfl (blkAs_cells (.cons (.same rfl) (.cons (.same rfl) .nil))) .nil)) (dim_Px_j1_ok h)
        · replace h := ifF hc8 h
          refine Sv.seq ?_
          refine Sv.region ?_
          refine un (a1 (v := (B (decide (d_.Unit = [118, 119])))) rfl ?_)
          refine un (a1 rfl ?_)
          refine dnil ?_
          refine Sv.cond (b := decide (d_.Unit = [118, 119])) rfl (fun hc9 => ?_) (fun hc9 => ?_)
          · replace h := ifT hc9 h
            refine Sv.region ?_
            refine un (a1 (v := (.c (.ref 1 4 0 2))) rfl ?_)
            refine un (a1 (v := (I k_.Width)) rfl ?_)
            refine un (a1 (v := (I (wi (64 * k_.Width)))) rfl ?_)
            refine un (a1 rfl ?_)
            refine un (a1 rfl ?_)
            refine dnil ?_
            exact Sv.weak (weak_canon [0] rfl (by decide) (by decide) (fun b h => absurd h (Nat.not_lt_zero _)) (.cons rfl (avAs_free rfl) (.cons rfl (avAs_free rfl) (.cons rfl (.c (.ref rfl (by decide))) .nil))) (.box (by decide) rfl (blkAs_cells (.cons (.same rfl) (.cons (.same rfl) .nil))) .nil)) (dim_Px_j1_ok h)
          · replace h := ifF hc9 h
            refine Sv.seq ?_
            refine Sv.region ?_
            refine un (a1 (v := (B (decide (d_.Unit = [118, 104])))) rfl ?_)
            refine un (a1 rfl ?_)
            refine dnil ?_
            refine Sv.cond (b := decide (d_.Unit = [118, 104])) rfl (fun hc10 => ?_) (fun hc10 => ?_)
            · replace h := ifT hc10 h
              refine Sv.region ?_
              refine un (a1 (v := (.c (.ref 1 4 0 3))) rfl ?_)
              refine un (a1 (v := (I k_.Height)) rfl ?_)
              refine un (a1 (v := (I (wi (64 * k_.Height)))) rfl ?_)
              refine un (a1 rfl ?_)
              refine un (a1 rfl ?_)
              refine dnil ?_
              exact Sv.weak (weak_canon [0] rfl (by decide) (by decide) (fun b h => absurd h (Nat.not_lt_zero _)) (.cons rfl (avAs_free rfl) (.cons rfl (avAs_free rfl) (.cons rfl (.c (.ref rfl (by decide))) .nil))) (.box (by decide) rfl (blkAs_cells (.cons (.same rfl) (.cons (.same rfl) .nil))) .nil)) (dim_Px_j1_ok h)
            · replace h := ifF hc10 h
              refine Sv.seq ?_
              refine Sv.region ?_
              refine un (a1 (v := (.c (.ref 0 2 0 1))) rfl ?_)
              refine un (a1 (v := (S d_.Unit)) rfl ?_)
              refine un (a1 (v := (B (!decide (d_.Unit = [])))) rfl ?_)
              refine un (a1 rfl ?_)
              refine gjoin 4 (d := 45) (v := (B ((!decide (d_.Unit = [])) || (!decide (d_.Num = 0))))) (fun X hX => ?_) ?_
              · refine split2 (fun hc11 => ?_) (fun hc11 => ?_)
                · refine gs rfl rfl ?_
                  refine gs rfl rfl ?_
                  refine gs rfl rfl ?_
                  refine un (a1 (v := (B true)) rfl ?_)
                  refine dnil ?_
                  exact hX _ (.putEq (by rw [hc11]; rfl) (.skip _ _ (.skip _ _ (.skip _ _ (.putEq (by rw [hc11]) (.refl _)) rfl) rfl) rfl))
                · refine gt rfl (a1 (v := (.c (.ref 0 2 0 0))) rfl ?_)
                  refine gt rfl (a1 (v := (I d_.Num)) rfl ?_)
                  refine gt rfl (a1 (v := (B (!decide (d_.Num = 0)))) rfl ?_)
                  refine un (a1 (v := (B (!decide (d_.Num = 0)))) rfl ?_)
                  refine dnil ?_
                  exact hX _ (.putEq (by rw [hc11]; rfl) (.skip _ _ (.skip _ _ (.skip _ _ (.putEq (by rw [hc11]) (.refl _)) rfl) rfl) rfl))
              refine dnil ?_
              refine Sv.cond (b := ((!decide (d_.Unit = [])) || (!decide (d_.Num = 0)))) rfl (fun hc12 => ?_) (fun hc12 => ?_)
              · replace h := ifT hc12 h
                refine Sv.seq ?_
                refine Sv.region ?_
                refine un (a1 rfl ?_)
                refine un (a1 rfl ?_)
                refine dnil ?_
                refine Sv.ret ?_
                replace h := Option.some.inj h
                subst h
                exact ⟨_, .refl _, _, rfl, ⟨upd (fun _ => none) 0 (some (.tup [(I 0), (I 7)])), (fun _ => none), 0⟩, (.tup [(I 0), (I 7)]), weak_canon [] rfl List.nodup_nil (Nat.le_refl _) (fun b h => absurd h (Nat.not_lt_zero _)) (.cons rfl (avAs_tup (.cons (avAs_free rfl) (.cons (avAs_free rfl) .nil))) .nil) .nil, rfl, rfl, rfl, rfl⟩
              · replace h := ifF hc12 h
                refine Sv.skip ?_
                exact Sv.weak (weak_canon [0] rfl (by decide) (by decide) (fun b h => absurd h (Nat.not_lt_zero _)) (.cons rfl (avAs_free rfl) (.cons rfl (avAs_free rfl) (.cons rfl (.c (.ref rfl (by decide))) .nil))) (.box (by decide) rfl (blkAs_cells (.cons (.same rfl) (.cons (.same rfl) .nil))) .nil)) (dim_Px_j1_ok h)
def a70 : AFunc := ⟨2, [(.tmp 4)], (.seq (.region [⟨(some 2), (.box (.tmp 0)), none⟩, ⟨(some 3), (.box (.tmp 1)), none⟩, ⟨(some 4), (.mov (.const (.c (.val (.bool false))))), none⟩])
 (.seq (.region [⟨(some 5), (.faddr 0 (.tmp 2)), none⟩, ⟨(some 6), (.load false 1 (.tmp 5)), none⟩, ⟨(some 7), (.bin .lss (.tmp 6) (.const (.c (.val (.int .i64 (-1000000000)))))), none⟩, ⟨(some 8), (.mov (.tmp 7)), none⟩, ⟨(some 9), (.faddr 0 (.tmp 2)), (some (8, false))⟩, ⟨(some 10), (.load false 1 (.tmp 9)), (some (8, false))⟩, ⟨(some 11), (.bin .gtr (.tmp 10) (.const (.c (.val (.int .i64 1000000000))))), (some (8, false))⟩, ⟨(some 12), (.pick (.tmp 8) (.const (.c (.val (.bool true)))) (.tmp 11)), none⟩, ⟨(some 13), (.mov (.tmp 12)), none⟩, ⟨(some 14), (.faddr 0 (.tmp 3)), (some (13, false))⟩, ⟨(some 15), (.load false 1 (.tmp 14)), (some (13, false))⟩, ⟨(some 16), (.bin .lss (.tmp 15) (.const (.c (.val (.int .i64 0))))), (some (13, false))⟩, ⟨(some 17), (.pick (.tmp 13) (.const (.c (.val (.bool true)))) (.tmp 16)), none⟩, ⟨(some 18), (.mov (.tmp 17)), none⟩, ⟨(some 19), (.faddr 0 (.tmp 3)), (some (18, false))⟩, ⟨(some 20), (.load false 1 (.tmp 19)), (some (18, false))⟩, ⟨(some 21), (.bin .gtr (.tmp 20) (.const (.c (.val (.int .i64 16777216))))), (some (18, false))⟩, ⟨(some 22), (.pick (.tmp 18) (.const (.c (.val (.bool true)))) (.tmp 21)), none⟩, ⟨(some 23), (.mov (.tmp 22)), none⟩, ⟨(some 24), (.faddr 1 (.tmp 3)), (some (23, false))⟩, ⟨(some 25), (.load false 1 (.tmp 24)), (some (23, false))⟩, ⟨(some 26), (.bin .lss (.tmp 25) (.const (.c (.val (.int .i64 0))))), (some (23, false))⟩, ⟨(some 27), (.pick (.tmp 23) (.const (.c (.val (.bool true)))) (.tmp 26)), none⟩, ⟨(some 28), (.mov (.tmp 27)), none⟩, ⟨(some 29), (.faddr 1 (.tmp 3)), (some (28, false))⟩, ⟨(some 30), (.load false 1 (.tmp 29)), (some (28, false))⟩, ⟨(some 31), (.bin .gtr (.tmp 30) (.const (.c (.val (.int .i64 16777216))))), (some (28, false))⟩, ⟨(some 32), (.pick (.tmp 28) (.const (.c (.val (.bool true)))) (.tmp 31)), none⟩, ⟨(some 33), (.mov (.tmp 32)), none⟩, ⟨(some 34), (.faddr 2 (.tmp 3)), (some (33, false))⟩, ⟨(some 35), (.load false 1 (.tmp 34)), (some (33, false))⟩, ⟨(some 36), (.bin .lss (.tmp 35) (.const (.c (.val (.int .i64 1))))), (some (33, false))⟩, ⟨(some 37), (.pick (.tmp 33) (.const (.c (.val (.bool true)))) (.tmp 36)), none⟩, ⟨(some 38), (.mov (.tmp 37)), none⟩, ⟨(some 39), (.faddr 2 (.tmp 3)), (some (38, false))⟩, ⟨(some 40), (.load false 1 (.tmp 39)), (some (38, false))⟩, ⟨(some 41), (.bin .gtr (.tmp 40) (.const (.c (.val (.int .i64 4000))))), (some (38, false))⟩, ⟨(some 42), (.pick (.tmp 38) (.const (.c (.val (.bool true)))) (.tmp 41)), none⟩, ⟨(some 43), (.mov (.tmp 42)), none⟩, ⟨(some 44), (.faddr 3 (.tmp 3)), (some (43, false))⟩, ⟨(some 45), (.load false 1 (.tmp 44)), (some (43, false))⟩, ⟨(some 46), (.bin .lss (.tmp 45) (.const (.c (.val (.int .i64 1))))), (some (43, false))⟩, ⟨(some 47), (.pick (.tmp 43) (.const (.c (.val (.bool true)))) (.tmp 46)), none⟩, ⟨(some 48), (.mov (.tmp 47)), none⟩, ⟨(some 49), (.faddr 3 (.tmp 3)), (some (48, false))⟩, ⟨(some 50), (.load false 1 (.tmp 49)), (some (48, false))⟩, ⟨(some 51), (.bin .gtr (.tmp 50) (.const (.c (.val (.int .i64 4000))))), (some (48, false))⟩, ⟨(some 52), (.pick (.tmp 48) (.const (.c (.val (.bool true)))) (.tmp 51)), none⟩, ⟨(some 4), (.mov (.tmp 52)), none⟩])
 .ret))⟩
set_option maxRecDepth 100000 in
theorem c70 : compFunc Tryd.prog 70 = some a70 := by kernel_rfl
def clerestoryref2_ScaleFault_post (r : Bool) : AV → Heap → Nat → Prop := fun v h' n' => v = (B r) ∧ (h' = (fun _ => none)) ∧ n' = 0
/-- clerestory/clerestoryref2.ScaleFault -/
def clerestoryref2_ScaleFault (d_ : TSDim) (k_ : TSScale) : Bool :=
  ((((((((((decide (d_.Num < (-1000000000))) || (decide (1000000000 < d_.Num))) || (decide (k_.Em < 0))) || (decide (16777216 < k_.Em))) || (decide (k_.Rem < 0))) || (decide (16777216 < k_.Rem))) || (decide (k_.Width < 1))) || (decide (4000 < k_.Width))) || (decide (k_.Height < 1))) || (decide (4000 < k_.Height)))
theorem clerestoryref2_ScaleFault_ok {mL : Int} (d_ : TSDim) (k_ : TSScale) : CPure Tryd.prog (GG mL) 70 [(.agg [cI d_.Num, .str d_.Unit]), (.agg [cI k_.Em, cI k_.Rem, cI k_.Width, cI k_.Height])] (B (clerestoryref2_ScaleFault d_ k_)) := by
  generalize h : clerestoryref2_ScaleFault d_ k_ = o
  refine acalls_of_sv hmix c70 (R := clerestoryref2_ScaleFault_post o) ?_
  unfold clerestoryref2_ScaleFault at h
  refine Sv.seq ?_
  refine Sv.region ?_
  refine un (a2v (v := (.c (.ref 0 2 0 0))) (h' := upd _ 0 (some (.cells 2 [[cI d_.Num, .str d_.Unit]]))) (n' := 1) rfl rfl (fun h => by cases h) ?_)
  refine un (a2v (v := (.c (.ref 1 4 0 0))) (h' := upd _ 1 (some (.cells 4 [[cI k_.Em, cI k_.Rem, cI k_.Width, cI k_.Height]]))) (n' := 2) rfl rfl (fun h => by cases h) ?_)
  refine un (a1 rfl ?_)
  refine dnil ?_
  refine Sv.seq ?_
  refine Sv.region ?_
  refine un (a1 (v := (.c (.ref 0 2 0 0))) rfl ?_)
  refine un (a1 (v := (I d_.Num)) rfl ?_)
  refine un (a1 (v := (B (decide (d_.Num < (-1000000000))))) rfl ?_)
  refine un (a1 rfl ?_)
  refine gjoin 4 (d := 12) (v := (B ((decide (d_.Num < (-1000000000))) || (decide (1000000000 < d_.Num))))) (fun X hX => ?_) ?_
  · refine split2 (fun hc1 => ?_) (fun hc1 => ?_)
    · refine gs rfl rfl ?_
      refine gs rfl rfl ?_
      refine gs rfl rfl ?_
      refine un (a1 (v := (B true)) rfl ?_)
      refine dnil ?_
      exact hX _ (.putEq (by rw [hc1]; rfl) (.skip _ _ (.skip _ _ (.skip _ _ (.putEq (by rw [hc1]) (.refl _)) rfl) rfl) rfl))
    · refine gt rfl (a1 (v := (.c (.ref 0 2 0 0))) rfl ?_)
      refine gt rfl (a1 (v := (I d_.Num)) rfl ?_)
      refine gt rfl (a1 (v := (B (decide (1000000000 < d_.Num)))) rfl ?_)
      refine un (a1 (v := (B (decide (1000000000 < d_.Num)))) rfl ?_)
      refine dnil ?_
      exact hX _ (.putEq (by rw [hc1]; rfl) (.skip _ _ (.skip _ _ (.skip _ _ (.putEq (by rw [hc1]) (.refl _)) rfl) rfl) rfl))
  refine un (a1 rfl ?_)
  refine gjoin 4 (d := 17) (v := (B (((decide (d_.Num < (-1000000000))) || (decide (1000000000 < d_.Num))) || (decide (k_.Em < 0))))) (fun X hX => ?_) ?_
  · refine split2 (fun hc2 => ?_) (fun hc2 => ?_)
    · refine gs rfl rfl ?_
      refine gs rfl rfl ?_
      refine gs rfl rfl ?_
      refine un (a1 (v := (B true)) rfl ?_)
      refine dnil ?_
      exact hX _ (.putEq (by rw [hc2]; rfl) (.skip _ _ (.skip _ _ (.skip _ _ (.putEq (by rw [hc2]) (.refl _)) rfl) rfl) rfl))
    · refine gt rfl (a1 (v := (.c (.ref 1 4 0 0))) rfl ?_)
      refine gt rfl (a1 (v := (I k_.Em)) rfl ?_)
      refine gt rfl (a1 (v := (B (decide (k_.Em < 0)))) rfl ?_)
      refine un (a1 (v := (B (decide (k_.Em < 0)))) rfl ?_)
      refine dnil ?_
      exact hX _ (.putEq (by rw [hc2]; rfl) (.skip _ _ (.skip _ _ (.skip _ _ (.putEq (by rw [hc2]) (.refl _)) rfl) rfl) rfl))
  refine un (a1 rfl ?_)
  refine gjoin 4 (d := 22) (v := (B ((((decide (d_.Num < (-1000000000))) || (decide (1000000000 < d_.Num))) || (decide (k_.Em < 0))) || (decide (16777216 < k_.Em))))) (fun X hX => ?_) ?_
  · refine split2 (fun hc3 => ?_) (fun hc3 => ?_)
    · refine gs rfl rfl ?_
      refine gs rfl rfl ?_
      refine gs rfl rfl ?_
      refine un (a1 (v := (B true)) rfl ?_)
      refine dnil ?_
      exact hX _ (.putEq (by rw [hc3]; rfl) (.skip _ _ (.skip _ _ (.skip _ _ (.putEq (by rw [hc3]) (.refl _)) rfl) rfl) rfl))
    · refine gt rfl (a1 (v := (.c (.ref 1 4 0 0))) rfl ?_)
      refine gt rfl (a1 (v := (I k_.Em)) rfl ?_)
      refine gt rfl (a1 (v := (B (decide (16777216 < k_.Em)))) rfl ?_)
      refine un (a1 (v := (B (decide (16777216 < k_.Em)))) rfl ?_)
      refine dnil ?_
      exact hX _ (.putEq (by rw [hc3]; rfl) (.skip _ _ (.skip _ _ (.skip _ _ (.putEq (by rw [hc3]) (.refl _)) rfl) rfl) rfl))
  refine un (a1 rfl ?_)
  refine gjoin 4 (d := 27) (v := (B (((((decide (d_.Num < (-1000000000))) || (decide (1000000000 < d_.Num))) || (decide (k_.Em < 0))) || (decide (16777216 < k_.Em))) || (decide (k_.Rem < 0))))) (fun X hX => ?_) ?_
  · refine split2 (fun hc4 => ?_) (fun hc4 => ?_)
    · refine gs rfl rfl ?_
      refine gs rfl rfl ?_
      refine gs rfl rfl ?_
      refine un (a1 (v := (B true)) rfl ?_)
      refine dnil ?_
      exact hX _ (.putEq (by rw [hc4]; rfl) (.skip _ _ (.skip _ _ (.skip _ _ (.putEq (by rw [hc4]) (.refl _)) rfl) rfl) rfl))
    · refine gt rfl (a1 (v := (.c (.ref 1 4 0 1))) rfl ?_)
      refine gt rfl (a1 (v := (I k_.Rem)) rfl ?_)
      refine gt rfl (a1 (v := (B (decide (k_.Rem < 0)))) rfl ?_)
      refine un (a1 (v := (B (decide (k_.Rem < 0)))) rfl ?_)
      refine dnil ?_
      exact hX _ (.putEq (by rw [hc4]; rfl) (.skip _ _ (.skip _ _ (.skip _ _ (.putEq (by rw [hc4]) (.refl _)) rfl) rfl) rfl))
  refine un (a1 rfl ?_)
  refine gjoin 4 (d := 32) (v := (B ((((((decide (d_.Num < (-1000000000))) || (decide (1000000000 < d_.Num))) || (decide (k_.Em < 0))) || (decide (16777216 < k_.Em))) || (decide (k_.Rem < 0))) || (decide (16777216 < k_.Rem))))) (fun X hX => ?_) ?_
  · refine split2 (fun hc5 => ?_) (fun hc5 => ?_)
    · refine gs rfl rfl ?_
      refine gs rfl rfl ?_
      refine gs rfl rfl ?_
      refine un (a1 (v := (B true)) rfl ?_)
      refine dnil ?_
      exact hX _ (.putEq (by rw [hc5]; rfl) (.skip _ _ (.skip _ _ (.skip _ _ (.putEq (by rw [hc5]) (.refl _)) rfl) rfl) rfl))
    · refine gt rfl (a1 (v := (.c (.ref 1 4 0 1))) rfl ?_)
      refine gt rfl (a1 (v := (I k_.Rem)) rfl ?_)
      refine gt rfl (a1 (v := (B (decide (16777216 < k_.Rem)))) rfl ?_)
      refine un (a1 (v := (B (decide (16777216 < k_.Rem)))) rfl ?_)
      refine dnil ?_
      exact hX _ (.putEq (by rw [hc5]; rfl) (.skip _ _ (.skip _ _ (.skip _ _ (.putEq (by rw [hc5]) (.refl _)) rfl) rfl) rfl))
  refine un (a1 rfl ?_)
  refine gjoin 4 (d := 37) (v := (B (((((((decide (d_.Num < (-1000000000))) || (decide (1000000000 < d_.Num))) || (decide (k_.Em < 0))) || (decide (16777216 < k_.Em))) || (decide (k_.Rem < 0))) || (decide (16777216 < k_.Rem))) || (decide (k_.Width < 1))))) (fun X hX => ?_) ?_
  · refine split2 (fun hc6 => ?_) (fun hc6 => ?_)
    · refine gs rfl rfl ?_
      refine gs rfl rfl ?_
      refine gs rfl rfl ?_
      refine un (a1 (v := (B true)) rfl ?_)
      refine dnil ?_
      exact hX _ (.putEq (by rw [hc6]; rfl) (.skip _ _ (.skip _ _ (.skip _ _ (.putEq (by rw [hc6]) (.refl _)) rfl) rfl) rfl))
    · refine gt rfl (a1 (v := (.c (.ref 1 4 0 2))) rfl ?_)
      refine gt rfl (a1 (v := (I k_.Width)) rfl ?_)
      refine gt rfl (a1 (v := (B (decide (k_.Width < 1)))) rfl ?_)
      refine un (a1 (v := (B (decide (k_.Width < 1)))) rfl ?_)
      refine dnil ?_
      exact hX _ (.putEq (by rw [hc6]; rfl) (.skip _ _ (.skip _ _ (.skip _ _ (.putEq (by rw [hc6]) (.refl _)) rfl) rfl) rfl))
  refine un (a1 rfl ?_)
  refine gjoin 4 (d := 42) (v := (B ((((((((decide (d_.Num < (-1000000000))) || (decide (1000000000 < d_.Num))) || (decide (k_.Em < 0))) || (decide (16777216 < k_.Em))) || (decide (k_.Rem < 0))) || (decide (16777216 < k_.Rem))) || (decide (k_.Width < 1))) || (decide (4000 < k_.Width))))) (fun X hX => ?_) ?_
  · refine split2 (fun hc7 => ?_) (fun hc7 => ?_)
    · refine gs rfl rfl ?_
      refine gs rfl rfl ?_
      refine gs rfl rfl ?_
      refine un (a1 (v := (B true)) rfl ?_)
      refine dnil ?_
      exact hX _ (.putEq (by rw [hc7]; rfl) (.skip _ _ (.skip _ _ (.skip _ _ (.putEq (by rw [hc7]) (.refl _)) rfl) rfl) rfl))
    · refine gt rfl (a1 (v := (.c (.ref 1 4 0 2))) rfl ?_)
      refine gt rfl (a1 (v := (I k_.Width)) rfl ?_)
      refine gt rfl (a1 (v := (B (decide (4000 < k_.Width)))) rfl ?_)
      refine un (a1 (v := (B (decide (4000 < k_.Width)))) rfl ?_)
      refine dnil ?_
      exact hX _ (.putEq (by rw [hc7]; rfl) (.skip _ _ (.skip _ _ (.skip _ _ (.putEq (by rw [hc7]) (.refl _)) rfl) rfl) rfl))
  refine un (a1 rfl ?_)
  refine gjoin 4 (d := 47) (v := (B (((((((((decide (d_.Num < (-1000000000))) || (decide (1000000000 < d_.Num))) || (decide (k_.Em < 0))) || (decide (16777216 < k_.Em))) || (decide (k_.Rem < 0))) || (decide (16777216 < k_.Rem))) || (decide (k_.Width < 1))) || (decide (4000 < k_.Width))) || (decide (k_.Height < 1))))) (fun X hX => ?_) ?_
  · refine split2 (fun hc8 => ?_) (fun hc8 => ?_)
    · refine gs rfl rfl ?_
      refine gs rfl rfl ?_
      refine gs rfl rfl ?_
      refine un (a1 (v := (B true)) rfl ?_)
      refine dnil ?_
      exact hX _ (.putEq (by rw [hc8]; rfl) (.skip _ _ (.skip _ _ (.skip _ _ (.putEq (by rw [hc8]) (.refl _)) rfl) rfl) rfl))
    · refine gt rfl (a1 (v := (.c (.ref 1 4 0 3))) rfl ?_)
      refine gt rfl (a1 (v := (I k_.Height)) rfl ?_)
      refine gt rfl (a1 (v := (B (decide (k_.Height < 1)))) rfl ?_)
      refine un (a1 (v := (B (decide (k_.Height < 1)))) rfl ?_)
      refine dnil ?_
      exact hX _ (.putEq (by rw [hc8]; rfl) (.skip _ _ (.skip _ _ (.skip _ _ (.putEq (by rw [hc8]) (.refl _)) rfl) rfl) rfl))
  refine un (a1 rfl ?_)
  refine gjoin 4 (d := 52) (v := (B ((((((((((decide (d_.Num < (-1000000000))) || (decide (1000000000 < d_.Num))) || (decide (k_.Em < 0))) || (decide (16777216 < k_.Em))) || (decide (k_.Rem < 0))) || (decide (16777216 < k_.Rem))) || (decide (k_.Width < 1))) || (decide (4000 < k_.Width))) || (decide (k_.Height < 1))) || (decide (4000 < k_.Height))))) (fun X hX => ?_) ?_
  · refine split2 (fun hc9 => ?_) (fun hc9 => ?_)
    · refine gs rfl rfl ?_
      refine gs rfl rfl ?_
      refine gs rfl rfl ?_
      refine un (a1 (v := (B true)) rfl ?_)
      refine dnil ?_
      exact hX _ (.putEq (by rw [hc9]; rfl) (.skip _ _ (.skip _ _ (.skip _ _ (.putEq (by rw [hc9]) (.refl _)) rfl) rfl) rfl))
    · refine gt rfl (a1 (v := (.c (.ref 1 4 0 3))) rfl ?_)
      refine gt rfl (a1 (v := (I k_.Height)) rfl ?_)
      refine gt rfl (a1 (v := (B (decide (4000 < k_.Height)))) rfl ?_)
      refine un (a1 (v := (B (decide (4000 < k_.Height)))) rfl ?_)
      refine dnil ?_
      exact hX _ (.putEq (by rw [hc9]; rfl) (.skip _ _ (.skip _ _ (.skip _ _ (.putEq (by rw [hc9]) (.refl _)) rfl) rfl) rfl))
  refine un (a1 rfl ?_)
  refine dnil ?_
  refine Sv.ret ?_
  subst h
  exact ⟨_, .refl _, _, rfl, ⟨upd (fun _ => none) 0 (some (B ((((((((((decide (d_.Num < (-1000000000))) || (decide (1000000000 < d_.Num))) || (decide (k_.Em < 0))) || (decide (16777216 < k_.Em))) || (decide (k_.Rem < 0))) || (decide (16777216 < k_.Rem))) || (decide (k_.Width < 1))) || (decide (4000 < k_.Width))) || (decide (k_.Height < 1))) || (decide (4000 < k_.Height))))), (fun _ => none), 0⟩, (B ((((((((((decide (d_.Num < (-1000000000))) || (decide (1000000000 < d_.Num))) || (decide (k_.Em < 0))) || (decide (16777216 < k_.Em))) || (decide (k_.Rem < 0))) || (decide (16777216 < k_.Rem))) || (decide (k_.Width < 1))) || (decide (4000 < k_.Width))) || (decide (k_.Height < 1))) || (decide (4000 < k_.Height)))), weak_canon [] rfl List.nodup_nil (Nat.le_refl _) (fun b h => absurd h (Nat.not_lt_zero _)) (.cons rfl (avAs_free rfl) .nil) .nil, rfl, rfl, rfl, rfl⟩
def a72_c0 : ACode := (.seq (.region [⟨(some 16), (.mov (.tmp 5)), none⟩, ⟨(some 4), (.mov (.tmp 16)), none⟩])
 .ret)
def a72 : AFunc := ⟨2, [(.tmp 4)], (.seq (.region [⟨(some 4), (.mov (.const (.c (.val (.int .i64 0))))), none⟩])
 (.seq (.region [⟨(some 6), (.mov (.tmp 0)), none⟩, ⟨(some 7), (.mov (.tmp 1)), none⟩, ⟨(some 8), (.bin .quo (.tmp 6) (.tmp 7)), none⟩, ⟨(some 5), (.mov (.tmp 8)), none⟩])
 (.seq (.seq (.region [⟨(some 9), (.mov (.tmp 5)), none⟩, ⟨(some 10), (.mov (.tmp 1)), none⟩, ⟨(some 11), (.bin .mul (.tmp 9) (.tmp 10)), none⟩, ⟨(some 12), (.mov (.tmp 0)), none⟩, ⟨(some 13), (.bin .gtr (.tmp 11) (.tmp 12)), none⟩])
 (.cond (.tmp 13) (.region [⟨(some 14), (.mov (.tmp 5)), none⟩, ⟨(some 15), (.bin .sub (.tmp 14) (.const (.c (.val (.int .i64 1))))), none⟩, ⟨(some 5), (.mov (.tmp 15)), none⟩]) .skip))
 a72_c0)))⟩
set_option maxRecDepth 100000 in
theorem c72 : compFunc Tryd.prog 72 = some a72 := by kernel_rfl
def clerestoryref2_Whole_post (r : Int) : AV → Heap → Nat → Prop := fun v h' n' => v = (I r) ∧ (h' = (fun _ => none)) ∧ n' = 0
noncomputable def clerestoryref2_Whole_j1 (q_ : Int) : Option Int :=
  some q_
theorem clerestoryref2_Whole_j1_ok {mL : Int} {q_ : Int} {o : Int} (h : clerestoryref2_Whole_j1 q_ = some o) :
    Sv Tryd.prog (GG mL) 0 a72_c0 (Ends a72.results 0 (clerestoryref2_Whole_post o)) ⟨(upd (fun _ => none) 5 (some (I q_))), (fun _ => none), 0⟩ := by
  unfold clerestoryref2_Whole_j1 at h
  refine Sv.seq ?_
  refine Sv.region ?_
  refine un (a1 rfl ?_)
  refine un (a1 rfl ?_)
  refine dnil ?_
  refine Sv.ret ?_
  replace h := Option.some.inj h
  subst h
  exact ⟨_, .refl _, _, rfl, ⟨upd (fun _ => none) 0 (some (I q_)), (fun _ => none), 0⟩, (I q_), weak_canon [] rfl List.nodup_nil (Nat.le_refl _) (fun b h => absurd h (Nat.not_lt_zero _)) (.cons rfl (avAs_free rfl) .nil) .nil, rfl, rfl, rfl, rfl⟩
/-- clerestory/clerestoryref2.Whole -/
noncomputable def clerestoryref2_Whole (n_ : Int) (by_ : Int) : Option Int :=
  (quo? .i64 n_ by_).bind fun r_ =>
  if decide (n_ < (wi (r_ * by_))) then
    clerestoryref2_Whole_j1 (wi (r_ - 1))
  else
    clerestoryref2_Whole_j1 r_
theorem clerestoryref2_Whole_ok {mL : Int} {n_ : Int} {by_ : Int} {r : Int} (h : clerestoryref2_Whole n_ by_ = some r) : CPure Tryd.prog (GG mL) 72 [(I n_), (I by_)] (I r) := by
  refine acalls_of_sv hmix c72 (R := clerestoryref2_Whole_post r) ?_
  unfold clerestoryref2_Whole at h
  refine Sv.seq ?_
  refine Sv.region ?_
  refine un (a1 rfl ?_)
  refine dnil ?_
  refine Sv.seq ?_
  refine Sv.region ?_
  refine un (a1 rfl ?_)
  refine un (a1 rfl ?_)
  obtain ⟨r_, hx1, h⟩ := bnd h
  refine un (a1 (v := (I r_)) (s_quo rfl rfl hx1) ?_)
  refine un (a1 rfl ?_)
  refine dnil ?_
  refine Sv.seq ?_
  refine Sv.seq ?_
  refine Sv.region ?_
  refine un (a1 rfl ?_)
  refine un (a1 rfl ?_)
  refine un (a1 (v := (I (wi (r_ * by_)))) rfl ?_)
  refine un (a1 rfl ?_)
  refine un (a1 (v := (B (decide (n_ < (wi (r_ * by_)))))) rfl ?_)
  refine dnil ?_
  refine Sv.cond (b := decide (n_ < (wi (r_ * by_)))) rfl (fun hc1 => ?_) (fun hc1 => ?_)
  · replace h := ifT hc1 h
    refine Sv.region ?_
    refine un (a1 rfl ?_)
    refine un (a1 (v := (I (wi (r_ - 1)))) rfl ?_)
    refine un (a1 rfl ?_)
    refine dnil ?_
    exact Sv.weak (weak_canon [] rfl (by decide) (by decide) (fun b h => absurd h (Nat.not_lt_zero _)) (.cons rfl (avAs_free rfl) .nil) .nil) (clerestoryref2_Whole_j1_ok h)
  · replace h := ifF hc1 h
    refine Sv.skip ?_
    exact Sv.weak (weak_canon [] rfl (by decide) (by decide) (fun b h => absurd h (Nat.not_lt_zero _)) (.cons rfl (avAs_free rfl) .nil) .nil) (clerestoryref2_Whole_j1_ok h)
def a71 : AFunc := ⟨1, [(.tmp 2)], (.seq (.region [⟨(some 2), (.mov (.const (.c (.val (.int .i64 0))))), none⟩])
 (.seq (.region [⟨(some 3), (.mov (.tmp 0)), none⟩, ⟨(some 4), (.mm false [(.tmp 3), (.const (.c (.val (.int .i64 16777216))))]), none⟩, ⟨(some 5), (.mm true [(.const (.c (.val (.int .i64 (-16777216))))), (.tmp 4)]), none⟩, ⟨(some 2), (.mov (.tmp 5)), none⟩])
 .ret))⟩
set_option maxRecDepth 100000 in
theorem c71 : compFunc Tryd.prog 71 = some a71 := by kernel_rfl
def clerestoryref2_Cut_post (r : Int) : AV → Heap → Nat → Prop := fun v h' n' => v = (I r) ∧ (h' = (fun _ => none)) ∧ n' = 0
/-- clerestory/clerestoryref2.Cut -/
def clerestoryref2_Cut (n_ : Int) : Int :=
  (mx (-16777216) (mn n_ 16777216))
theorem clerestoryref2_Cut_ok {mL : Int} (n_ : Int) : CPure Tryd.prog (GG mL) 71 [(I n_)] (I (clerestoryref2_Cut n_)) := by
  generalize h : clerestoryref2_Cut n_ = o
  refine acalls_of_sv hmix c71 (R := clerestoryref2_Cut_post o) ?_
  unfold clerestoryref2_Cut at h
  refine Sv.seq ?_
  refine Sv.region ?_
  refine un (a1 rfl ?_)
  refine dnil ?_
  refine Sv.seq ?_
  refine Sv.region ?_
  refine un (a1 rfl ?_)
  refine un (a1 (v := (I (mn n_ 16777216))) (s_mn rfl rfl) ?_)
  refine un (a1 (v := (I (mx (-16777216) (mn n_ 16777216)))) (s_mx rfl rfl) ?_)
  refine un (a1 rfl ?_)
  refine dnil ?_
  refine Sv.ret ?_
  subst h
  exact ⟨_, .refl _, _, rfl, ⟨upd (fun _ => none) 0 (some (I (mx (-16777216) (mn n_ 16777216)))), (fun _ => none), 0⟩, (I (mx (-16777216) (mn n_ 16777216))), weak_canon [] rfl List.nodup_nil (Nat.le_refl _) (fun b h => absurd h (Nat.not_lt_zero _)) (.cons rfl (avAs_free rfl) .nil) .nil, rfl, rfl, rfl, rfl⟩
def a30 : AFunc := ⟨2, [(.tmp 4), (.tmp 5)], (.seq (.region [⟨(some 2), (.box (.tmp 0)), none⟩, ⟨(some 3), (.box (.tmp 1)), none⟩, ⟨(some 4), (.mov (.const (.c (.val (.int .i64 0))))), none⟩, ⟨(some 5), (.mov (.const (.c (.val (.int .i64 0))))), none⟩])
 (.seq (.seq (.region [⟨(some 6), (.load true 2 (.tmp 2)), none⟩, ⟨(some 7), (.load true 4 (.tmp 3)), none⟩, ⟨(some 8), (.call 70 [(.tmp 6), (.tmp 7)]), none⟩])
 (.cond (.tmp 8) (.seq (.region [⟨(some 4), (.mov (.const (.c (.val (.int .i64 0))))), none⟩, ⟨(some 5), (.mov (.const (.c (.val (.int .i64 1))))), none⟩])
 .ret) .skip))
 (.seq (.seq (.region [⟨(some 9), (.faddr 1 (.tmp 2)), none⟩, ⟨(some 10), (.load false 1 (.tmp 9)), none⟩, ⟨(some 11), (.bin .eql (.tmp 10) (.const (.c (.str [112, 120])))), none⟩])
 (.cond (.tmp 11) (.seq (.region [⟨(some 12), (.faddr 0 (.tmp 2)), none⟩, ⟨(some 13), (.load false 1 (.tmp 12)), none⟩, ⟨(some 14), (.bin .mul (.tmp 13) (.const (.c (.val (.int .i64 64))))), none⟩, ⟨(some 15), (.call 72 [(.tmp 14), (.const (.c (.val (.int .i64 1000))))]), none⟩, ⟨(some 16), (.call 71 [(.tmp 15)]), none⟩, ⟨(some 4), (.mov (.tmp 16)), none⟩, ⟨(some 5), (.mov (.const (.c (.val (.int .i64 0))))), none⟩])
 .ret) .skip))
 (.seq (.seq (.region [⟨(some 17), (.faddr 1 (.tmp 2)), none⟩, ⟨(some 18), (.load false 1 (.tmp 17)), none⟩, ⟨(some 19), (.bin .eql (.tmp 18) (.const (.c (.str [101, 109])))), none⟩])
 (.cond (.tmp 19) (.seq (.region [⟨(some 20), (.faddr 0 (.tmp 2)), none⟩, ⟨(some 21), (.load false 1 (.tmp 20)), none⟩, ⟨(some 22), (.faddr 0 (.tmp 3)), none⟩, ⟨(some 23), (.load false 1 (.tmp 22)), none⟩, ⟨(some 24), (.bin .mul (.tmp 21) (.tmp 23)), none⟩, ⟨(some 25), (.call 72 [(.tmp 24), (.const (.c (.val (.int .i64 1000))))]), none⟩, ⟨(some 26), (.call 71 [(.tmp 25)]), none⟩, ⟨(some 4), (.mov (.tmp 26)), none⟩, ⟨(some 5), (.mov (.const (.c (.val (.int .i64 0))))), none⟩])
 .ret) .skip))
 (.seq (.seq (.region [⟨(some 27), (.faddr 1 (.tmp 2)), none⟩, ⟨(some 28), (.load false 1 (.tmp 27)), none⟩, ⟨(some 29), (.bin .eql (.tmp 28) (.const (.c (.str [114, 101, 109])))), none⟩])
 (.cond (.tmp 29) (.seq (.region [⟨(some 30), (.faddr 0 (.tmp 2)), none⟩, ⟨(some 31), (.load false 1 (.tmp 30)), none⟩, ⟨(some 32), (.faddr 1 (.tmp 3)), none⟩, ⟨(some 33), (.load false 1 (.tmp 32)), none⟩, ⟨(some 34), (.bin .mul (.tmp 31) (.tmp 33)), none⟩, ⟨(some 35), (.call 72 [(.tmp 34), (.const (.c (.val (.int .i64 1000))))]), none⟩, ⟨(some 36), (.call 71 [(.tmp 35)]), none⟩, ⟨(some 4), (.mov (.tmp 36)), none⟩, ⟨(some 5), (.mov (.const (.c (.val (.int .i64 0))))), none⟩])
 .ret) .skip))
 (.seq (.seq (.region [⟨(some 37), (.faddr 1 (.tmp 2)), none⟩, ⟨(some 38), (.load false 1 (.tmp 37)), none⟩, ⟨(some 39), (.bin .eql (.tmp 38) (.const (.c (.str [118, 119])))), none⟩])
 (.cond (.tmp 39) (.seq (.region [⟨(some 40), (.faddr 0 (.tmp 2)), none⟩, ⟨(some 41), (.load false 1 (.tmp 40)), none⟩, ⟨(some 42), (.bin .mul (.tmp 41) (.const (.c (.val (.int .i64 64))))), none⟩, ⟨(some 43), (.faddr 2 (.tmp 3)), none⟩, ⟨(some 44), (.load false 1 (.tmp 43)), none⟩, ⟨(some 45), (.bin .mul (.tmp 42) (.tmp 44)), none⟩, ⟨(some 46), (.call 72 [(.tmp 45), (.const (.c (.val (.int .i64 100000))))]), none⟩, ⟨(some 47), (.call 71 [(.tmp 46)]), none⟩, ⟨(some 4), (.mov (.tmp 47)), none⟩, ⟨(some 5), (.mov (.const (.c (.val (.int .i64 0))))), none⟩])
 .ret) .skip))
 (.seq (.seq (.region [⟨(some 48), (.faddr 1 (.tmp 2)), none⟩, ⟨(some 49), (.load false 1 (.tmp 48)), none⟩, ⟨(some 50), (.bin .eql (.tmp 49) (.const (.c (.str [118, 104])))), none⟩])
 (.cond (.tmp 50) (.seq (.region [⟨(some 51), (.faddr 0 (.tmp 2)), none⟩, ⟨(some 52), (.load false 1 (.tmp 51)), none⟩, ⟨(some 53), (.bin .mul (.tmp 52) (.const (.c (.val (.int .i64 64))))), none⟩, ⟨(some 54), (.faddr 3 (.tmp 3)), none⟩, ⟨(some 55), (.load false 1 (.tmp 54)), none⟩, ⟨(some 56), (.bin .mul (.tmp 53) (.tmp 55)), none⟩, ⟨(some 57), (.call 72 [(.tmp 56), (.const (.c (.val (.int .i64 100000))))]), none⟩, ⟨(some 58), (.call 71 [(.tmp 57)]), none⟩, ⟨(some 4), (.mov (.tmp 58)), none⟩, ⟨(some 5), (.mov (.const (.c (.val (.int .i64 0))))), none⟩])
 .ret) .skip))
 (.seq (.seq (.region [⟨(some 59), (.faddr 1 (.tmp 2)), none⟩, ⟨(some 60), (.load false 1 (.tmp 59)), none⟩, ⟨(some 61), (.bin .eql (.tmp 60) (.const (.c (.str [])))), none⟩, ⟨(some 62), (.mov (.tmp 61)), none⟩, ⟨(some 63), (.faddr 0 (.tmp 2)), (some (62, true))⟩, ⟨(some 64), (.load false 1 (.tmp 63)), (some (62, true))⟩, ⟨(some 65), (.bin .eql (.tmp 64) (.const (.c (.val (.int .i64 0))))), (some (62, true))⟩, ⟨(some 66), (.pick (.tmp 62) (.tmp 65) (.const (.c (.val (.bool false))))), none⟩])
 (.cond (.tmp 66) (.seq (.region [⟨(some 4), (.mov (.const (.c (.val (.int .i64 0))))), none⟩, ⟨(some 5), (.mov (.const (.c (.val (.int .i64 0))))), none⟩])
 .ret) .skip))
 (.seq (.region [⟨(some 4), (.mov (.const (.c (.val (.int .i64 0))))), none⟩, ⟨(some 5), (.mov (.const (.c (.val (.int .i64 7))))), none⟩])
 .ret)))))))))⟩
set_option maxRecDepth 100000 in
theorem c30 : compFunc Tryd.prog 30 = some a30 := by kernel_rfl
def clerestoryref2_PxOf_post (r : (Int × Int)) : AV → Heap → Nat → Prop := fun v h' n' => v = (.tup [(I r.1), (I r.2)]) ∧ (h' = (fun _ => none)) ∧ n' = 0
/-- clerestory/clerestoryref2.PxOf -/
noncomputable def clerestoryref2_PxOf (d_ : TSDim) (k_ : TSScale) : Option (Int × Int) :=
  if (clerestoryref2_ScaleFault d_ k_) then
    some (0, 1)
  else
    if decide (d_.Unit = [112, 120]) then
      (clerestoryref2_Whole (wi (d_.Num * 64)) 1000).bind fun r_ =>
      some ((clerestoryref2_Cut r_), 0)
    else
      if decide (d_.Unit = [101, 109]) then
        (clerestoryref2_Whole (wi (d_.Num * k_.Em)) 1000).bind fun r_1 =>
        some ((clerestoryref2_Cut r_1), 0)
      else
        if decide (d_.Unit = [114, 101, 109]) then
          (clerestoryref2_Whole (wi (d_.Num * k_.Rem)) 1000).bind fun r_2 =>
          some ((clerestoryref2_Cut r_2), 0)
        else
          if decide (d_.Unit = [118, 119]) then
            (clerestoryref2_Whole (wi ((wi (d_.Num * 64)) * k_.Width)) 100000).bind fun r_3 =>
            some ((clerestoryref2_Cut r_3), 0)
          else
            if decide (d_.Unit = [118, 104]) then
              (clerestoryref2_Whole (wi ((wi (d_.Num * 64)) * k_.Height)) 100000).bind fun r_4 =>
              some ((clerestoryref2_Cut r_4), 0)
            else
              if ((decide (d_.Unit = [])) && (decide (d_.Num = 0))) then
                some (0, 0)
              else
                some (0, 7)
theorem clerestoryref2_PxOf_ok {mL : Int} {d_ : TSDim} {k_ : TSScale} {r : (Int × Int)} (h : clerestoryref2_PxOf d_ k_ = some r) : CPure Tryd.prog (GG mL) 30 [(.agg [cI d_.Num, .str d_.Unit]), (.agg [cI k_.Em, cI k_.Rem, cI k_.Width, cI k_.Height])] (.tup [(I r.1), (I r.2)]) := by
  refine acalls_of_sv hmix c30 (R := clerestoryref2_PxOf_post r) ?_
  unfold clerestoryref2_PxOf at h
  refine Sv.seq ?_
  refine Sv.region ?_
  refine un (a2v (v := (.c (.ref 0 2 0 0))) (h' := upd _ 0 (some (.cells 2 [[cI d_.Num, .str d_.Unit]]))) (n' := 1) rfl rfl (fun h => by cases h) ?_)
  refine un (a2v (v := (.c (.ref 1 4 0 0))) (h' := upd _ 1 (some (.cells 4 [[cI k_.Em, cI k_.Rem, cI k_.Width, cI k_.Height]]))) (n' := 2) rfl rfl (fun h => by cases h) ?_)
  refine un (a1 rfl ?_)
  refine un (a1 rfl ?_)
  refine dnil ?_
  refine Sv.seq ?_
  refine Sv.seq ?_
  refine Sv.region ?_
  refine un (a1 (v := (.agg [cI d_.Num, .str d_.Unit])) rfl ?_)
  refine un (a1 (v := (.agg [cI k_.Em, cI k_.Rem, cI k_.Width, cI k_.Height])) rfl ?_)
  refine un (ac_pure (clerestoryref2_ScaleFault_ok (mL := mL) d_ k_) rfl rfl rfl ?_)
  refine dnil ?_
  refine Sv.cond (b := (clerestoryref2_ScaleFault d_ k_)) rfl (fun hc1 => ?_) (fun hc1 => ?_)
  · replace h := ifT hc1 h
    refine Sv.seq ?_
    refine Sv.region ?_
    refine un (a1 rfl ?_)
    refine un (a1 rfl ?_)
    refine dnil ?_
    refine Sv.ret ?_
    replace h := Option.some.inj h
    subst h
    exact ⟨_, .refl _, _, rfl, ⟨upd (fun _ => none) 0 (some (.tup [(I 0), (I 1)])), (fun _ => none), 0⟩, (.tup [(I 0), (I 1)]), weak_canon [] rfl List.nodup_nil (Nat.le_refl _) (fun b h => absurd h (Nat.not_lt_zero _)) (.cons rfl (avAs_tup (.cons (avAs_free rfl) (.cons (avAs_free rfl) .nil))) .nil) .nil, rfl, rfl, rfl, rfl⟩
  · replace h := ifF hc1 h
    refine Sv.skip ?_
    refine Sv.seq ?_
    refine Sv.seq ?_
    refine Sv.region ?_
    refine un (a1 (v := (.c (.ref 0 2 0 1))) rfl ?_)
    refine un (a1 (v := (S d_.Unit)) rfl ?_)
    refine un (a1 (v := (B (decide (d_.Unit = [112, 120])))) rfl ?_)
    refine dnil ?_
    refine Sv.cond (b := decide (d_.Unit = [112, 120])) rfl (fun hc2 => ?_) (fun hc2 => ?_)
    · replace h := ifT hc2 h
      refine Sv.seq ?_
      refine Sv.region ?_
      refine un (a1 (v := (.c (.ref 0 2 0 0))) rfl ?_)
      refine un (a1 (v := (I d_.Num)) rfl ?_)
      refine un (a1 (v := (I (wi (d_.Num * 64)))) rfl ?_)
      obtain ⟨r_, hr1, h⟩ := bnd h
      refine un (ac_pure (clerestoryref2_Whole_ok hr1) rfl rfl rfl ?_)
      refine un (ac_pure (clerestoryref2_Cut_ok (mL := mL) r_) rfl rfl rfl ?_)
      refine un (a1 rfl ?_)
      refine un (a1 rfl ?_)
      refine dnil ?_
      refine Sv.ret ?_
      replace h := Option.some.inj h
      subst h
      exact ⟨_, .refl _, _, rfl, ⟨upd (fun _ => none) 0 (some (.tup [(I (clerestoryref2_Cut r_)), (I 0)])), (fun _ => none), 0⟩, (.tup [(I (clerestoryref2_Cut r_)), (I 0)]), weak_canon [] rfl List.nodup_nil (Nat.le_refl _) (fun b h => absurd h (Nat.not_lt_zero _)) (.cons rfl (avAs_tup (.cons (avAs_free rfl) (.cons (avAs_free rfl) .nil))) .nil) .nil, rfl, rfl, rfl, rfl⟩
    · replace h := ifF hc2 h
      refine Sv.skip ?_
      refine Sv.seq ?_
      refine Sv.seq ?_
      refine Sv.region ?_
      refine un (a1 (v := (.c (.ref 0 2 0 1))) rfl ?_)
      refine un (a1 (v := (S d_.Unit)) rfl ?_)
      refine un (a1 (v := (B (decide (d_.Unit = [101, 109])))) rfl ?_)
      refine dnil ?_
      refine Sv.cond (b := decide (d_.Unit = [101, 109])) rfl (fun hc3 => ?_) (fun hc3 => ?_)
      · replace h := ifT hc3 h
        refine Sv.seq ?_
        refine Sv.region ?_
        refine un (a1 (v := (.c (.ref 0 2 0 0))) rfl ?_)
        refine un (a1 (v := (I d_.Num)) rfl ?_)
        refine un (a1 (v := (.c (.ref 1 4 0 0))) rfl ?_)
        refine un (a1 (v := (I k_.Em)) rfl ?_)
        refine un (a1 (v := (I (wi (d_.Num * k_.Em)))) rfl ?_)
        obtain ⟨r_1, hr2, h⟩ := bnd h
        refine un (ac_pure (clerestoryref2_Whole_ok hr2) rfl rfl rfl ?_)
        refine un (ac_pure (clerestoryref2_Cut_ok (mL := mL) r_1) rfl rfl rfl ?_)
        refine un (a1 rfl ?_)
        refine un (a1 rfl ?_)
        refine dnil ?_
        refine Sv.ret ?_
        replace h := Option.some.inj h
        subst h
        exact ⟨_, .refl _, _, rfl, ⟨upd (fun _ => none) 0 (some (.tup [(I (clerestoryref2_Cut r_1)), (I 0)])), (fun _ => none), 0⟩, (.tup [(I (clerestoryref2_Cut r_1)), (I 0)]), weak_canon [] rfl List.nodup_nil (Nat.le_refl _) (fun b h => absurd h (Nat.not_lt_zero _)) (.cons rfl (avAs_tup (.cons (avAs_free rfl) (.cons (avAs_free rfl) .nil))) .nil) .nil, rfl, rfl, rfl, rfl⟩
      · replace h := ifF hc3 h
        refine Sv.skip ?_
        refine Sv.seq ?_
        refine Sv.seq ?_
        refine Sv.region ?_
        refine un (a1 (v := (.c (.ref 0 2 0 1))) rfl ?_)
        refine un (a1 (v := (S d_.Unit)) rfl ?_)
        refine un (a1 (v := (B (decide (d_.Unit = [114, 101, 109])))) rfl ?_)
        refine dnil ?_
        refine Sv.cond (b := decide (d_.Unit = [114, 101, 109])) rfl (fun hc4 => ?_) (fun hc4 => ?_)
        · replace h := ifT hc4 h
          refine Sv.seq ?_
          refine Sv.region ?_
          refine un (a1 (v := (.c (.ref 0 2 0 0))) rfl ?_)
          refine un (a1 (v := (I d_.Num)) rfl ?_)
          refine un (a1 (v := (.c (.ref 1 4 0 1))) rfl ?_)
          refine un (a1 (v := (I k_.Rem)) rfl ?_)
          refine un (a1 (v := (I (wi (d_.Num * k_.Rem)))) rfl ?_)
          obtain ⟨r_2, hr3, h⟩ := bnd h
          refine un (ac_pure (clerestoryref2_Whole_ok hr3) rfl rfl rfl ?_)
          refine un (ac_pure (clerestoryref2_Cut_ok (mL := mL) r_2) rfl rfl rfl ?_)
          refine un (a1 rfl ?_)
          refine un (a1 rfl ?_)
          refine dnil ?_
          refine Sv.ret ?_
          replace h := Option.some.inj h
          subst h
          exact ⟨_, .refl _, _, rfl, ⟨upd (fun _ => none) 0 (some (.tup [(I (clerestoryref2_Cut r_2)), (I 0)])), (fun _ => none), 0⟩, (.tup [(I (clerestoryref2_Cut r_2)), (I 0)]), weak_canon [] rfl List.nodup_nil (Nat.le_refl _) (fun b h => absurd h (Nat.not_lt_zero _)) (.cons rfl (avAs_tup (.cons (avAs_free rfl) (.cons (avAs_free rfl) .nil))) .nil) .nil, rfl, rfl, rfl, rfl⟩
        · replace h := ifF hc4 h
          refine Sv.skip ?_
          refine Sv.seq ?_
          refine Sv.seq ?_
          refine Sv.region ?_
          refine un (a1 (v := (.c (.ref 0 2 0 1))) rfl ?_)
          refine un (a1 (v := (S d_.Unit)) rfl ?_)
          refine un (a1 (v := (B (decide (d_.Unit = [118, 119])))) rfl ?_)
          refine dnil ?_
          refine Sv.cond (b := decide (d_.Unit = [118, 119])) rfl (fun hc5 => ?_) (fun hc5 => ?_)
          · replace h := ifT hc5 h
            refine Sv.seq ?_
            refine Sv.region ?_
            refine un (a1 (v := (.c (.ref 0 2 0 0))) rfl ?_)
            refine un (a1 (v := (I d_.Num)) rfl ?_)
            refine un (a1 (v := (I (wi (d_.Num * 64)))) rfl ?_)
            refine un (a1 (v := (.c (.ref 1 4 0 2))) rfl ?_)
            refine un (a1 (v := (I k_.Width)) rfl ?_)
            refine un (a1 (v := (I (wi ((wi (d_.Num * 64)) * k_.Width)))) rfl ?_)
            obtain ⟨r_3, hr4, h⟩ := bnd h
            refine un (ac_pure (clerestoryref2_Whole_ok hr4) rfl rfl rfl ?_)
            refine un (ac_pure (clerestoryref2_Cut_ok (mL := mL) r_3) rfl rfl rfl ?_)
            refine un (a1 rfl ?_)
            refine un (a1 rfl ?_)
            refine dnil ?_
            refine Sv.ret ?_
            replace h := Option.some.inj h
            subst h
            exact ⟨_, .refl _, _, rfl, ⟨upd (fun _ => none) 0 (some (.tup [(I (clerestoryref2_Cut r_3)), (I 0)])), (fun _ => none), 0⟩, (.tup [(I (clerestoryref2_Cut r_3)), (I 0)]), weak_canon [] rfl List.nodup_nil (Nat.le_refl _) (fun b h => absurd h (Nat.not_lt_zero _)) (.cons rfl (avAs_tup (.cons (avAs_free rfl) (.cons (avAs_free rfl) .nil))) .nil) .nil, rfl, rfl, rfl, rfl⟩
          · replace h := ifF hc5 h
            refine Sv.skip ?_
            refine Sv.seq ?_
            refine Sv.seq ?_
            refine Sv.region ?_
            refine un (a1 (v := (.c (.ref 0 2 0 1))) rfl ?_)
            refine un (a1 (v := (S d_.Unit)) rfl ?_)
            refine un (a1 (v := (B (decide (d_.Unit = [118, 104])))) rfl ?_)
            refine dnil ?_
            refine Sv.cond (b := decide (d_.Unit = [118, 104])) rfl (fun hc6 => ?_) (fun hc6 => ?_)
            · replace h := ifT hc6 h
              refine Sv.seq ?_
              refine Sv.region ?_
              refine un (a1 (v := (.c (.ref 0 2 0 0))) rfl ?_)
              refine un (a1 (v := (I d_.Num)) rfl ?_)
              refine un (a1 (v := (I (wi (d_.Num * 64)))) rfl ?_)
              refine un (a1 (v := (.c (.ref 1 4 0 3))) rfl ?_)
              refine un (a1 (v := (I k_.Height)) rfl ?_)
              refine un (a1 (v := (I (wi ((wi (d_.Num * 64)) * k_.Height)))) rfl ?_)
              obtain ⟨r_4, hr5, h⟩ := bnd h
              refine un (ac_pure (clerestoryref2_Whole_ok hr5) rfl rfl rfl ?_)
              refine un (ac_pure (clerestoryref2_Cut_ok (mL := mL) r_4) rfl rfl rfl ?_)
              refine un (a1 rfl ?_)
              refine un (a1 rfl ?_)
              refine dnil ?_
              refine Sv.ret ?_
              replace h := Option.some.inj h
              subst h
              exact ⟨_, .refl _, _, rfl, ⟨upd (fun _ => none) 0 (some (.tup [(I (clerestoryref2_Cut r_4)), (I 0)])), (fun _ => none), 0⟩, (.tup [(I (clerestoryref2_Cut r_4)), (I 0)]), weak_canon [] rfl List.nodup_nil (Nat.le_refl _) (fun b h => absurd h (Nat.not_lt_zero _)) (.cons rfl (avAs_tup (.cons (avAs_free rfl) (.cons (avAs_free rfl) .nil))) .nil) .nil, rfl, rfl, rfl, rfl⟩
            · replace h := ifF hc6 h
              refine Sv.skip ?_
              refine Sv.seq ?_
              refine Sv.seq ?_
              refine Sv.region ?_
              refine un (a1 (v := (.c (.ref 0 2 0 1))) rfl ?_)
              refine un (a1 (v := (S d_.Unit)) rfl ?_)
              refine un (a1 (v := (B (decide (d_.Unit = [])))) rfl ?_)
              refine un (a1 rfl ?_)
              refine gjoin 4 (d := 66) (v := (B ((decide (d_.Unit = [])) && (decide (d_.Num = 0))))) (fun X hX => ?_) ?_
              · refine split2 (fun hc7 => ?_) (fun hc7 => ?_)
                · refine gt rfl (a1 (v := (.c (.ref 0 2 0 0))) rfl ?_)
                  refine gt rfl (a1 (v := (I d_.Num)) rfl ?_)
                  refine gt rfl (a1 (v := (B (decide (d_.Num = 0)))) rfl ?_)
                  refine un (a1 (v := (B (decide (d_.Num = 0)))) rfl ?_)
                  refine dnil ?_
                  exact hX _ (.putEq (by rw [hc7]; rfl) (.skip _ _ (.skip _ _ (.skip _ _ (.putEq (by rw [hc7]) (.refl _)) rfl) rfl) rfl))
                · refine gs rfl rfl ?_
                  refine gs rfl rfl ?_
                  refine gs rfl rfl ?_
                  refine un (a1 (v := (B false)) rfl ?_)
                  refine dnil ?_
                  exact hX _ (.putEq (by rw [hc7]; rfl) (.skip _ _ (.skip _ _ (.skip _ _ (.putEq (by rw [hc7]) (.refl _)) rfl) rfl) rfl))
              refine dnil ?_
              refine Sv.cond (b := ((decide (d_.Unit = [])) && (decide (d_.Num = 0)))) rfl (fun hc8 => ?_) (fun hc8 => ?_)
              · replace h := ifT hc8 h
                refine Sv.seq ?_
                refine Sv.region ?_
                refine un (a1 rfl ?_)
                refine un (a1 rfl ?_)
                refine dnil ?_
                refine Sv.ret ?_
                replace h := Option.some.inj h
                subst h
                exact ⟨_, .refl _, _, rfl, ⟨upd (fun _ => none) 0 (some (.tup [(I 0), (I 0)])), (fun _ => none), 0⟩, (.tup [(I 0), (I 0)]), weak_canon [] rfl List.nodup_nil (Nat.le_refl _) (fun b h => absurd h (Nat.not_lt_zero _)) (.cons rfl (avAs_tup (.cons (avAs_free rfl) (.cons (avAs_free rfl) .nil))) .nil) .nil, rfl, rfl, rfl, rfl⟩
              · replace h := ifF hc8 h
                refine Sv.skip ?_
                refine Sv.seq ?_
                refine Sv.region ?_
                refine un (a1 rfl ?_)
                refine un (a1 rfl ?_)
                refine dnil ?_
                refine Sv.ret ?_
                replace h := Option.some.inj h
                subst h
                exact ⟨_, .refl _, _, rfl, ⟨upd (fun _ => none) 0 (some (.tup [(I 0), (I 7)])), (fun _ => none), 0⟩, (.tup [(I 0), (I 7)]), weak_canon [] rfl List.nodup_nil (Nat.le_refl _) (fun b h => absurd h (Nat.not_lt_zero _)) (.cons rfl (avAs_tup (.cons (avAs_free rfl) (.cons (avAs_free rfl) .nil))) .nil) .nil, rfl, rfl, rfl, rfl⟩
def a7 : AFunc := ⟨2, [(.tmp 4)], (.seq (.region [⟨(some 2), (.box (.tmp 0)), none⟩, ⟨(some 3), (.box (.tmp 1)), none⟩, ⟨(some 4), (.mov (.const (.c (.val (.bool false))))), none⟩])
 (.seq (.region [⟨(some 10), (.call 28 []), none⟩, ⟨(some 5), (.mov (.tmp 10)), none⟩])
 (.seq (.region [⟨(some 12), (.load true 2 (.tmp 2)), none⟩, ⟨(some 13), (.load true 4 (.tmp 3)), none⟩, ⟨(some 14), (.call 29 [(.tmp 12), (.tmp 13)]), none⟩, ⟨(some 11), (.mov (.tmp 14)), none⟩, ⟨(some 15), (.ext (.tmp 11) 0), none⟩, ⟨(some 16), (.ext (.tmp 11) 1), none⟩, ⟨(some 6), (.mov (.tmp 15)), none⟩, ⟨(some 7), (.mov (.tmp 16)), none⟩])
 (.seq (.region [⟨(some 18), (.load true 2 (.tmp 2)), none⟩, ⟨(some 19), (.load true 4 (.tmp 3)), none⟩, ⟨(some 20), (.call 30 [(.tmp 18), (.tmp 19)]), none⟩, ⟨(some 17), (.mov (.tmp 20)), none⟩, ⟨(some 21), (.ext (.tmp 17) 0), none⟩, ⟨(some 22), (.ext (.tmp 17) 1), none⟩, ⟨(some 8), (.mov (.tmp 21)), none⟩, ⟨(some 9), (.mov (.tmp 22)), none⟩])
 (.seq (.region [⟨(some 23), (.mov (.tmp 5)), none⟩, ⟨(some 24), (.mov (.tmp 23)), none⟩, ⟨(some 25), (.mov (.tmp 6)), (some (24, true))⟩, ⟨(some 26), (.mov (.tmp 8)), (some (24, true))⟩, ⟨(some 27), (.bin .eql (.tmp 25) (.tmp 26)), (some (24, true))⟩, ⟨(some 28), (.pick (.tmp 24) (.tmp 27) (.const (.c (.val (.bool false))))), none⟩, ⟨(some 29), (.mov (.tmp 28)), none⟩, ⟨(some 30), (.mov (.tmp 7)), (some (29, true))⟩, ⟨(some 31), (.mov (.tmp 9)), (some (29, true))⟩, ⟨(some 32), (.bin .eql (.tmp 30) (.tmp 31)), (some (29, true))⟩, ⟨(some 33), (.pick (.tmp 29) (.tmp 32) (.const (.c (.val (.bool false))))), none⟩, ⟨(some 4), (.mov (.tmp 33)), none⟩])
 .ret)))))⟩
set_option maxRecDepth 100000 in
theorem c7 : compFunc Tryd.prog 7 = some a7 := by kernel_rfl
def clerestorylaw2_DimPxs_post (r : Bool) : AV → Heap → Nat → Prop := fun v h' n' => v = (B r) ∧ (h' = (fun _ => none)) ∧ n' = 0
/-- clerestory/clerestorylaw2.DimPxs -/
noncomputable def clerestorylaw2_DimPxs (d_ : TSDim) (k_ : TSScale) : Option Bool :=
  (clerestorylaw2_half).bind fun r_ =>
  (dim_Px d_ k_).bind fun r_1 =>
  (clerestoryref2_PxOf d_ k_).bind fun r_2 =>
  some ((r_ && (decide (r_1.1 = r_2.1))) && (decide (r_1.2 = r_2.2)))
theorem clerestorylaw2_DimPxs_ok {mL : Int} {d_ : TSDim} {k_ : TSScale} {r : Bool} (h : clerestorylaw2_DimPxs d_ k_ = some r) : CPure Tryd.prog (GG mL) 7 [(.agg [cI d_.Num, .str d_.Unit]), (.agg [cI k_.Em, cI k_.Rem, cI k_.Width, cI k_.Height])] (B r) := by
  refine acalls_of_sv hmix c7 (R := clerestorylaw2_DimPxs_post r) ?_
  unfold clerestorylaw2_DimPxs at h
  refine Sv.seq ?_
  refine Sv.region ?_
  refine un (a2v (v := (.c (.ref 0 2 0 0))) (h' := upd _ 0 (some (.cells 2 [[cI d_.Num, .str d_.Unit]]))) (n' := 1) rfl rfl (fun h => by cases h) ?_)
  refine un (a2v (v := (.c (.ref 1 4 0 0))) (h' := upd _ 1 (some (.cells 4 [[cI k_.Em, cI k_.Rem, cI k_.Width, cI k_.Height]]))) (n' := 2) rfl rfl (fun h => by cases h) ?_)
  refine un (a1 rfl ?_)
  refine dnil ?_
  refine Sv.seq ?_
  refine Sv.region ?_
  obtain ⟨r_, hr1, h⟩ := bnd h
  refine un (ac_pure (clerestorylaw2_half_ok hr1) rfl rfl rfl ?_)
  refine un (a1 rfl ?_)
  refine dnil ?_
  refine Sv.seq ?_
  refine Sv.region ?_
  refine un (a1 (v := (.agg [cI d_.Num, .str d_.Unit])) rfl ?_)
  refine un (a1 (v := (.agg [cI k_.Em, cI k_.Rem, cI k_.Width, cI k_.Height])) rfl ?_)
  obtain ⟨r_1, hr2, h⟩ := bnd h
  refine un (ac_pure (dim_Px_ok hr2) rfl rfl rfl ?_)
  refine un (a1 rfl ?_)
  refine un (a1 (v := (I r_1.1)) rfl ?_)
  refine un (a1 (v := (I r_1.2)) rfl ?_)
  refine un (a1 rfl ?_)
  refine un (a1 rfl ?_)
  refine dnil ?_
  refine Sv.seq ?_
  refine Sv.region ?_
  refine un (a1 (v := (.agg [cI d_.Num, .str d_.Unit])) rfl ?_)
  refine un (a1 (v := (.agg [cI k_.Em, cI k_.Rem, cI k_.Width, cI k_.Height])) rfl ?_)
  obtain ⟨r_2, hr3, h⟩ := bnd h
  refine un (ac_pure (clerestoryref2_PxOf_ok hr3) rfl rfl rfl ?_)
  refine un (a1 rfl ?_)
  refine un (a1 (v := (I r_2.1)) rfl ?_)
  refine un (a1 (v := (I r_2.2)) rfl ?_)
  refine un (a1 rfl ?_)
  refine un (a1 rfl ?_)
  refine dnil ?_
  refine Sv.seq ?_
  refine Sv.region ?_
  refine un (a1 rfl ?_)
  refine un (a1 rfl ?_)
  refine gjoin 4 (d := 28) (v := (B (r_ && (decide (r_1.1 = r_2.1))))) (fun X hX => ?_) ?_
  · refine split2 (fun hc1 => ?_) (fun hc1 => ?_)
    · refine gt rfl (a1 rfl ?_)
      refine gt rfl (a1 rfl ?_)
      refine gt rfl (a1 (v := (B (decide (r_1.1 = r_2.1)))) rfl ?_)
      refine un (a1 (v := (B (decide (r_1.1 = r_2.1)))) rfl ?_)
      refine dnil ?_
      exact hX _ (.putEq (by rw [hc1]; rfl) (.skip _ _ (.skip _ _ (.skip _ _ (.putEq (by rw [hc1]) (.refl _)) rfl) rfl) rfl))
    · refine gs rfl rfl ?_
      refine gs rfl rfl ?_
      refine gs rfl rfl ?_
      refine un (a1 (v := (B false)) rfl ?_)
      refine dnil ?_
      exact hX _ (.putEq (by rw [hc1]; rfl) (.skip _ _ (.skip _ _ (.skip _ _ (.putEq (by rw [hc1]) (.refl _)) rfl) rfl) rfl))
  refine un (a1 rfl ?_)
  refine gjoin 4 (d := 33) (v := (B ((r_ && (decide (r_1.1 = r_2.1))) && (decide (r_1.2 = r_2.2))))) (fun X hX => ?_) ?_
  · refine split2 (fun hc2 => ?_) (fun hc2 => ?_)
    · refine gt rfl (a1 rfl ?_)
      refine gt rfl (a1 rfl ?_)
      refine gt rfl (a1 (v := (B (decide (r_1.2 = r_2.2)))) rfl ?_)
      refine un (a1 (v := (B (decide (r_1.2 = r_2.2)))) rfl ?_)
      refine dnil ?_
      exact hX _ (.putEq (by rw [hc2]; rfl) (.skip _ _ (.skip _ _ (.skip _ _ (.putEq (by rw [hc2]) (.refl _)) rfl) rfl) rfl))
    · refine gs rfl rfl ?_
      refine gs rfl rfl ?_
      refine gs rfl rfl ?_
      refine un (a1 (v := (B false)) rfl ?_)
      refine dnil ?_
      exact hX _ (.putEq (by rw [hc2]; rfl) (.skip _ _ (.skip _ _ (.skip _ _ (.putEq (by rw [hc2]) (.refl _)) rfl) rfl) rfl))
  refine un (a1 rfl ?_)
  refine dnil ?_
  refine Sv.ret ?_
  replace h := Option.some.inj h
  subst h
  exact ⟨_, .refl _, _, rfl, ⟨upd (fun _ => none) 0 (some (B ((r_ && (decide (r_1.1 = r_2.1))) && (decide (r_1.2 = r_2.2))))), (fun _ => none), 0⟩, (B ((r_ && (decide (r_1.1 = r_2.1))) && (decide (r_1.2 = r_2.2)))), weak_canon [] rfl List.nodup_nil (Nat.le_refl _) (fun b h => absurd h (Nat.not_lt_zero _)) (.cons rfl (avAs_free rfl) .nil) .nil, rfl, rfl, rfl, rfl⟩
end Go.Proofs.YtagfmlkihindaaaDoorBv
