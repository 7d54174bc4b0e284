/- Printed by a program of mine (bgen.py): plain functions, and the walks that show that the code comes to what they answer. -/
import Derived.Test.YteldbcjjojjjiaaDoorGDimTells0
namespace Go.Proofs.YteldbcjjojjjiaaDoorBv
open Go
set_option linter.unusedVariables false
set_option maxRecDepth 100000
def a20_c0 : ACode := (.cond (.tmp 25) (.seq (.region [⟨(some 26), (.build [(.val (.int .i64 0)), (.str [])] []), none⟩, ⟨none, (.store 2 (.tmp 2) (.tmp 26)), none⟩, ⟨(some 3), (.mov (.const (.c (.val (.int .i64 4))))), none⟩])
 .ret) .skip)
def a20_c1 : ACode := (.seq (.drawn (.fin [(⟨(some 27), (.mov (.tmp 4)), none⟩, (0, 0)), (⟨(some 28), (.iaddr 4 (.tmp 27) (.const (.c (.val (.int .i64 0))))), none⟩, (0, 1)), (⟨(some 29), (.faddr 3 (.tmp 28)), none⟩, (0, 2)), (⟨(some 30), (.load false 1 (.tmp 29)), none⟩, (0, 3)), (⟨(some 31), (.mov (.tmp 4)), none⟩, (0, 4)), (⟨(some 32), (.iaddr 4 (.tmp 31) (.const (.c (.val (.int .i64 0))))), none⟩, (0, 5)), (⟨(some 33), (.faddr 2 (.tmp 32)), none⟩, (0, 6)), (⟨(some 34), (.load false 1 (.tmp 33)), none⟩, (0, 7)), (⟨(some 35), (.build [(.val (.int .i64 0)), (.str [])] [(0, (1, (.tmp 30))), (1, (1, (.tmp 34)))]), none⟩, (0, 8)), (⟨none, (.store 2 (.tmp 2) (.tmp 35)), none⟩, (2, 9)), (⟨(some 3), (.mov (.const (.c (.val (.int .i64 0))))), none⟩, (0, 10))]))
 .ret)
def a20 : AFunc := ⟨1, [(.cell true 2 2), (.tmp 3)], (.seq (.region [⟨(some 2), (.box (.const (.agg [(.val (.int .i64 0)), (.str [])]))), none⟩, ⟨(some 3), (.mov (.const (.c (.val (.int .i64 0))))), none⟩])
 (.seq (.region [⟨(some 5), (.mov (.tmp 0)), none⟩, ⟨(some 6), (.call 37 [(.tmp 5)]), none⟩, ⟨(some 4), (.mov (.tmp 6)), none⟩])
 (.seq (.seq (.drawn (.fin [(⟨(some 7), (.mov (.tmp 4)), none⟩, (0, 0)), (⟨(some 8), (.len (.tmp 7)), none⟩, (0, 1)), (⟨(some 9), (.bin .neq (.tmp 8) (.const (.c (.val (.int .i64 1))))), none⟩, (0, 2)), (⟨(some 10), (.mov (.tmp 9)), none⟩, (0, 3)), (⟨(some 11), (.mov (.tmp 4)), (some (10, false))⟩, (0, 4)), (⟨(some 12), (.iaddr 4 (.tmp 11) (.const (.c (.val (.int .i64 0))))), (some (10, false))⟩, (0, 5)), (⟨(some 13), (.faddr 0 (.tmp 12)), (some (10, false))⟩, (0, 6)), (⟨(some 14), (.load false 1 (.tmp 13)), (some (10, false))⟩, (0, 7)), (⟨(some 15), (.bin .neq (.tmp 14) (.const (.c (.val (.int .i64 7))))), (some (10, false))⟩, (0, 8)), (⟨(some 16), (.pick (.tmp 10) (.const (.c (.val (.bool true)))) (.tmp 15)), none⟩, (0, 9)), (⟨(some 17), (.mov (.tmp 16)), none⟩, (0, 10)), (⟨(some 18), (.load false 1 (.glob 0)), (some (17, false))⟩, (0, 11)), (⟨(some 19), (.mov (.tmp 4)), (some (17, false))⟩, (0, 12)), (⟨(some 20), (.iaddr 4 (.tmp 19) (.const (.c (.val (.int .i64 0))))), (some (17, false))⟩, (0, 13)), (⟨(some 21), (.faddr 2 (.tmp 20)), (some (17, false))⟩, (0, 14)), (⟨(some 22), (.load false 1 (.tmp 21)), (some (17, false))⟩, (0, 15)), (⟨(some 23), (.call 53 [(.tmp 18), (.tmp 22)]), (some (17, false))⟩, (2, 16)), (⟨(some 24), (.un .not (.tmp 23)), (some (17, false))⟩, (0, 17)), (⟨(some 25), (.pick (.tmp 17) (.const (.c (.val (.bool true)))) (.tmp 24)), none⟩, (0, 18))]))
 a20_c0)
 a20_c1)))⟩
set_option maxRecDepth 100000 in
theorem c20 : compFunc Tryd.prog 20 = some a20 := by kernel_rfl
def dim_Read_post (r : (TSDim × Int)) : AV → Heap → Nat → Prop := fun v h' n' => v = (.tup [(.agg [cI r.1.Num, .str r.1.Unit]), (I r.2)]) ∧ (h' = (fun _ => none)) ∧ n' = 0
abbrev dim_Read_q0 (mL : Int) (o : (TSDim × Int)) : AExit → St → Prop := AThen (Sv Tryd.prog (GG mL) 0 a20_c1 (Ends a20.results 0 (dim_Read_post o))) (Ends a20.results 0 (dim_Read_post o))
noncomputable def dim_Read_j1 (l_ : (List TSToken)) (v25 : Bool) : Option (TSDim × Int) :=
  if v25 then
    some ((⟨0, []⟩ : TSDim), 4)
  else
    (at? l_ 0).bind fun x_ =>
    (at? l_ 0).bind fun x_1 =>
    some ((⟨x_.Num, x_1.Value⟩ : TSDim), 0)
theorem dim_Read_j1_ok {mL : Int} {l_ : (List TSToken)} {v25 : Bool} {zl : Bool} (hzl : zl = true → l_ = []) {o : (TSDim × Int)} (h : dim_Read_j1 l_ v25 = some o) :
    Sv Tryd.prog (GG mL) 0 a20_c0 (dim_Read_q0 mL o) ⟨(upd (upd (upd (fun _ => none) 2 (some (.c (.ref 0 2 0 0)))) 4 (some (lstV zl 1 4 l_.length))) 25 (some (B v25))), (upd (upd (fun _ => none) 0 (some (.cells 2 [[cI 0, .str []]]))) 1 (lstB zl 4 (l_.map e_TSToken))), 2⟩ := by
  unfold dim_Read_j1 at h
  refine Sv.cond (b := v25) rfl (fun hc1 => ?_) (fun hc1 => ?_)
  · replace h := ifT hc1 h
    refine Sv.seq ?_
    refine Sv.region ?_
    refine un (a1 (v := (.agg [cI 0, .str []])) rfl ?_)
    refine un (a2n (h' := upd _ 0 (some (.cells 2 [[cI 0, .str []]]))) (n' := 2) rfl rfl (fun h => by cases h) ?_)
    refine un (a1 rfl ?_)
    refine dnil ?_
    refine Sv.ret ?_
    replace h := Option.some.inj h
    subst h
    exact ⟨_, .refl _, _, rfl, ⟨upd (fun _ => none) 0 (some (.tup [(.agg [cI 0, .str []]), (I 4)])), (fun _ => none), 0⟩, (.tup [(.agg [cI 0, .str []]), (I 4)]), weak_canon [] rfl List.nodup_nil (Nat.le_refl _) (fun b h => absurd h (Nat.not_lt_zero _)) (.cons rfl (avAs_tup (.cons (avAs_free rfl) (.cons (avAs_free rfl) .nil))) .nil) .nil, rfl, rfl, rfl, rfl⟩
  · replace h := ifF hc1 h
    refine Sv.skip ?_
    refine Sv.seq ?_
    refine Sv.drawn ?_
    refine un (a1 rfl ?_)
    obtain ⟨x_, hx1, h⟩ := bnd h
    refine un (a1 (v := (.c (.ref 1 4 (0 : Int).toNat 0))) (s_iaddrL rfl rfl hzl hx1) ?_)
    refine un (a1 (v := (.c (.ref 1 4 (0 : Int).toNat 3))) rfl ?_)
    refine un (a1 (v := (I x_.Num)) (s_loadL (z := zl) (e := e_TSToken) rfl rfl hzl hx1 rfl rfl) ?_)
    refine un (a1 rfl ?_)
    obtain ⟨x_1, hx2, h⟩ := bnd h
    refine un (a1 (v := (.c (.ref 1 4 (0 : Int).toNat 0))) (s_iaddrL rfl rfl hzl hx2) ?_)
    refine un (a1 (v := (.c (.ref 1 4 (0 : Int).toNat 2))) rfl ?_)
    refine un (a1 (v := (S x_1.Value)) (s_loadL (z := zl) (e := e_TSToken) rfl rfl hzl hx2 rfl rfl) ?_)
    refine un (a1 (v := (.agg [cI x_.Num, .str x_1.Value])) rfl ?_)
    refine un (a2n (h' := upd _ 0 (some (.cells 2 [[cI x_.Num, .str x_1.Value]]))) (n' := 2) rfl rfl (fun h => by cases h) ?_)
    refine un (a1 rfl ?_)
    refine dnil ?_
    refine Sv.ret ?_
    replace h := Option.some.inj h
    subst h
    exact ⟨_, .refl _, _, rfl, ⟨upd (fun _ => none) 0 (some (.tup [(.agg [cI x_.Num, .str x_1.Value]), (I 0)])), (fun _ => none), 0⟩, (.tup [(.agg [cI x_.Num, .str x_1.Value]), (I 0)]), weak_canon [] rfl List.nodup_nil (Nat.le_refl _) (fun b h => absurd h (Nat.not_lt_zero _)) (.cons rfl (avAs_tup (.cons (avAs_free rfl) (.cons (avAs_free rfl) .nil))) .nil) .nil, rfl, rfl, rfl, rfl⟩
/-- clerestory/dim.Read -/
noncomputable def dim_Read (s_ : (List UInt8)) : Option (TSDim × Int) :=
  (csstok_Cut s_).bind fun r_ =>
  if (!decide ((r_.length : Int) = 1)) then
    dim_Read_j1 r_ true
  else
    (at? r_ 0).bind fun x_2 =>
    if (!decide (x_2.Kind = 7)) then
      dim_Read_j1 r_ true
    else
      (at? r_ 0).bind fun x_3 =>
      (slices_Contains_string gl0 x_3.Value).bind fun r_1 =>
      dim_Read_j1 r_ (!r_1)
theorem dim_Read_ok {mL : Int} {s_ : (List UInt8)} {r : (TSDim × Int)} (h : dim_Read s_ = some r) : CPure Tryd.prog (GG mL) 20 [(S s_)] (.tup [(.agg [cI r.1.Num, .str r.1.Unit]), (I r.2)]) := by
  refine acalls_of_sv hmix c20 (R := dim_Read_post r) ?_
  unfold dim_Read at h
  refine Sv.seq ?_
  refine Sv.region ?_
  refine un (a2v (v := (.c (.ref 0 2 0 0))) (h' := upd _ 0 (some (.cells 2 [[cI 0, .str []]]))) (n' := 1) rfl rfl (fun h => by cases h) ?_)
  refine un (a1 rfl ?_)
  refine dnil ?_
  refine Sv.seq ?_
  refine Sv.region ?_
  refine un (a1 rfl ?_)
  obtain ⟨r_, hr1, h⟩ := bnd h
  refine un (ac_gen (bs := []) («as» := [(S s_)]) (h2 := _) (h1 := (fun _ => none)) (csstok_Cut_ok hr1) rfl (.cons (avAs_free rfl) .nil) (hsub_refl _) (.nil _) (fun _ => rfl) (by decide) (by decide) (.cons (avAs_free rfl) .nil) .nil ?_)
  rintro _ _ _ hn ⟨z_, hz_, rfl, rfl, rfl⟩
  refine ⟨.inl rfl, (upd (rem [] _) 1 (lstB z_ 4 (r_.map e_TSToken))), fun hbd => (m3_cons (m3_row rfl (fr_map fun _ => rfl)) (m3_rem (in_nil _) (.cons (by decide) .nil) hbd)), (lstV z_ 1 4 r_.length), 2, (by cases z_ <;> rfl), rfl, ?_⟩
  refine un (a1 rfl ?_)
  refine dnil ?_
  refine Sv.seq ?_
  refine Sv.seq ?_
  refine Sv.drawn ?_
  refine un (a1 rfl ?_)
  refine un (a1 (v := (I (r_.length : Int))) (s_lenL rfl (len_nil_of hz_)) ?_)
  refine un (a1 (v := (B (!decide ((r_.length : Int) = 1)))) rfl ?_)
  refine un (a1 rfl ?_)
  refine split2 (fun hc2 => ?_) (fun hc2 => ?_)
  · replace h := ifT hc2 h
    refine gs rfl rfl ?_
    refine gs rfl rfl ?_
    refine gs rfl rfl ?_
    refine gs rfl rfl ?_
    refine gs rfl rfl ?_
    refine un (a1 (v := (B true)) rfl ?_)
    refine un (a1 rfl ?_)
    refine gs rfl rfl ?_
    refine gs rfl rfl ?_
    refine gs rfl rfl ?_
    refine gs rfl rfl ?_
    refine gs rfl rfl ?_
    refine gs rfl rfl ?_
    refine gs rfl rfl ?_
    refine un (a1 (v := (B true)) rfl ?_)
    refine dnil ?_
    exact Sv.weak (weak_canon [0, 1] rfl (by decide) (by decide) (fun b h => absurd h (Nat.not_lt_zero _)) (.cons rfl (avAs_free rfl) (.cons rfl (.c (lstC_ren rfl (by decide))) (.cons rfl (.c (.ref rfl (by decide))) .nil))) (.row (by decide) rfl (fr_map fun _ => rfl) (.box (by decide) rfl (blkAs_cells (.cons (.same rfl) (.cons (.same rfl) .nil))) .nil))) (dim_Read_j1_ok hz_ h)
  · replace h := ifF hc2 h
    refine gt rfl (a1 rfl ?_)
    obtain ⟨x_2, hx3, h⟩ := bnd h
    refine gt rfl (a1 (v := (.c (.ref 1 4 (0 : Int).toNat 0))) (s_iaddrL rfl rfl hz_ hx3) ?_)
    refine gt rfl (a1 (v := (.c (.ref 1 4 (0 : Int).toNat 0))) rfl ?_)
    refine gt rfl (a1 (v := (I x_2.Kind)) (s_loadL (z := z_) (e := e_TSToken) rfl rfl hz_ hx3 rfl rfl) ?_)
    refine gt rfl (a1 (v := (B (!decide (x_2.Kind = 7)))) rfl ?_)
    refine un (a1 (v := (B (!decide (x_2.Kind = 7)))) rfl ?_)
    refine un (a1 rfl ?_)
    refine split2 (fun hc3 => ?_) (fun hc3 => ?_)
    · replace h := ifT hc3 h
      refine gs rfl rfl ?_
      refine gs rfl rfl ?_
      refine gs rfl rfl ?_
      refine gs rfl rfl ?_
      refine gs rfl rfl ?_
      refine gs rfl rfl ?_
      refine gs rfl rfl ?_
      refine un (a1 (v := (B true)) rfl ?_)
      refine dnil ?_
      exact Sv.weak (weak_canon [0, 1] rfl (by decide) (by decide) (fun b h => absurd h (Nat.not_lt_zero _)) (.cons rfl (avAs_free rfl) (.cons rfl (.c (lstC_ren rfl (by decide))) (.cons rfl (.c (.ref rfl (by decide))) .nil))) (.row (by decide) rfl (fr_map fun _ => rfl) (.box (by decide) rfl (blkAs_cells (.cons (.same rfl) (.cons (.same rfl) .nil))) .nil))) (dim_Read_j1_ok hz_ h)
    · replace h := ifF hc3 h
      refine gt rfl (a1 (v := (.c (.ro false 1 (gl0.map eStr)))) rfl ?_)
      refine gt rfl (a1 rfl ?_)
      obtain ⟨x_3, hx4, h⟩ := bnd h
      refine gt rfl (a1 (v := (.c (.ref 1 4 (0 : Int).toNat 0))) (s_iaddrL rfl rfl hz_ hx4) ?_)
      refine gt rfl (a1 (v := (.c (.ref 1 4 (0 : Int).toNat 2))) rfl ?_)
      refine gt rfl (a1 (v := (S x_3.Value)) (s_loadL (z := z_) (e := e_TSToken) rfl rfl hz_ hx4 rfl rfl) ?_)
      obtain ⟨r_1, hr2, h⟩ := bnd h
      refine gt rfl (ac_pure (slices_Contains_string_ok hr2) rfl rfl rfl ?_)
      refine gt rfl (a1 (v := (B (!r_1))) rfl ?_)
      refine un (a1 (v := (B (!r_1))) rfl ?_)
      refine dnil ?_
      exact Sv.weak (weak_canon [0, 1] rfl (by decide) (by decide) (fun b h => absurd h (Nat.not_lt_zero _)) (.cons rfl (avAs_free rfl) (.cons rfl (.c (lstC_ren rfl (by decide))) (.cons rfl (.c (.ref rfl (by decide))) .nil))) (.row (by decide) rfl (fr_map fun _ => rfl) (.box (by decide) rfl (blkAs_cells (.cons (.same rfl) (.cons (.same rfl) .nil))) .nil))) (dim_Read_j1_ok hz_ h)
def a7 : AFunc := ⟨0, [(.tmp 0)], (.seq (.region [⟨(some 0), (.mov (.const (.c (.val (.bool false))))), none⟩])
 (.seq (.region [⟨(some 4), (.call 20 [(.const (.c (.str [49, 46, 53, 48, 101, 109])))]), none⟩, ⟨(some 3), (.mov (.tmp 4)), none⟩, ⟨(some 5), (.ext (.tmp 3) 0), none⟩, ⟨(some 6), (.ext (.tmp 3) 1), none⟩, ⟨(some 1), (.box (.const (.agg [(.val (.int .i64 0)), (.str [])]))), none⟩, ⟨none, (.store 2 (.tmp 1) (.tmp 5)), none⟩, ⟨(some 2), (.mov (.tmp 6)), none⟩])
 (.seq (.region [⟨(some 7), (.mov (.tmp 2)), none⟩, ⟨(some 8), (.bin .eql (.tmp 7) (.const (.c (.val (.int .i64 0))))), none⟩, ⟨(some 9), (.mov (.tmp 8)), none⟩, ⟨(some 10), (.load true 2 (.tmp 1)), (some (9, true))⟩, ⟨(some 11), (.build [(.val (.int .i64 0)), (.str [])] [(0, (1, (.const (.c (.val (.int .i64 1500)))))), (1, (1, (.const (.c (.str [101, 109])))))]), (some (9, true))⟩, ⟨(some 12), (.eqs false true [.i, .s] (.tmp 10) (.tmp 11)), (some (9, true))⟩, ⟨(some 13), (.pick (.tmp 9) (.tmp 12) (.const (.c (.val (.bool false))))), none⟩, ⟨(some 0), (.mov (.tmp 13)), none⟩])
 .ret)))⟩
set_option maxRecDepth 100000 in
theorem c7 : compFunc Tryd.prog 7 = some a7 := by kernel_rfl
def clerestorylaw2_half_post (r : Bool) : AV → Heap → Nat → Prop := fun v h' n' => v = (B r) ∧ (h' = (fun _ => none)) ∧ n' = 0
/-- clerestory/clerestorylaw2.half -/
noncomputable def clerestorylaw2_half : Option Bool :=
  (dim_Read [49, 46, 53, 48, 101, 109]).bind fun r_ =>
  some ((decide (r_.2 = 0)) && (decide (r_.1.Num = 1500) && (decide (r_.1.Unit = [101, 109]) && true)))
theorem clerestorylaw2_half_ok {mL : Int} {r : Bool} (h : clerestorylaw2_half = some r) : CPure Tryd.prog (GG mL) 7 [] (B r) := by
  refine acalls_of_sv hmix c7 (R := clerestorylaw2_half_post r) ?_
  unfold clerestorylaw2_half at h
  refine Sv.seq ?_
  refine Sv.region ?_
  refine un (a1 rfl ?_)
  refine dnil ?_
  refine Sv.seq ?_
  refine Sv.region ?_
  obtain ⟨r_, hr1, h⟩ := bnd h
  refine un (ac_pure (dim_Read_ok hr1) rfl rfl rfl ?_)
  refine un (a1 rfl ?_)
  refine un (a1 (v := (.agg [cI r_.1.Num, .str r_.1.Unit])) rfl ?_)
  refine un (a1 (v := (I r_.2)) rfl ?_)
  refine un (a2v (v := (.c (.ref 0 2 0 0))) (h' := upd _ 0 (some (.cells 2 [[cI 0, .str []]]))) (n' := 1) rfl rfl (fun h => by cases h) ?_)
  refine un (a2n (h' := upd _ 0 (some (.cells 2 [[cI r_.1.Num, .str r_.1.Unit]]))) (n' := 1) rfl rfl (fun h => by cases h) ?_)
  refine un (a1 rfl ?_)
  refine dnil ?_
  refine Sv.seq ?_
  refine Sv.region ?_
  refine un (a1 rfl ?_)
  refine un (a1 (v := (B (decide (r_.2 = 0)))) rfl ?_)
  refine un (a1 rfl ?_)
  refine gjoin 4 (d := 13) (v := (B ((decide (r_.2 = 0)) && (decide (r_.1.Num = 1500) && (decide (r_.1.Unit = [101, 109]) && true))))) (fun X hX => ?_) ?_
  · refine split2 (fun hc1 => ?_) (fun hc1 => ?_)
    · refine gt rfl (a1 (v := (.agg [cI r_.1.Num, .str r_.1.Unit])) rfl ?_)
      refine gt rfl (a1 (v := (.agg [cI 1500, .str [101, 109]])) rfl ?_)
      refine gt rfl (a1 (v := (B (decide (r_.1.Num = 1500) && (decide (r_.1.Unit = [101, 109]) && true)))) rfl ?_)
      refine un (a1 (v := (B (decide (r_.1.Num = 1500) && (decide (r_.1.Unit = [101, 109]) && true)))) rfl ?_)
      refine dnil ?_
      exact hX _ (.putEq (by rw [hc1]; rfl) (.skip _ _ (.skip _ _ (.skip _ _ (.putEq (by rw [hc1]) (.refl _)) rfl) rfl) rfl))
    · refine gs rfl rfl ?_
      refine gs rfl rfl ?_
      refine gs rfl rfl ?_
      refine un (a1 (v := (B false)) rfl ?_)
      refine dnil ?_
      exact hX _ (.putEq (by rw [hc1]; rfl) (.skip _ _ (.skip _ _ (.skip _ _ (.putEq (by rw [hc1]) (.refl _)) rfl) rfl) rfl))
  refine un (a1 rfl ?_)
  refine dnil ?_
  refine Sv.ret ?_
  replace h := Option.some.inj h
  subst h
  exact ⟨_, .refl _, _, rfl, ⟨upd (fun _ => none) 0 (some (B ((decide (r_.2 = 0)) && (decide (r_.1.Num = 1500) && (decide (r_.1.Unit = [101, 109]) && true))))), (fun _ => none), 0⟩, (B ((decide (r_.2 = 0)) && (decide (r_.1.Num = 1500) && (decide (r_.1.Unit = [101, 109]) && true)))), weak_canon [] rfl List.nodup_nil (Nat.le_refl _) (fun b h => absurd h (Nat.not_lt_zero _)) (.cons rfl (avAs_free rfl) .nil) .nil, rfl, rfl, rfl, rfl⟩
noncomputable abbrev strconv_Itoa (i_ : Int) : Option (List UInt8) := itoa? i_
/-- strconv.Itoa, by the contract of the shelf -/
theorem strconv_Itoa_ok {mL : Int} {i_ : Int} {r : (List UInt8)} (h : strconv_Itoa i_ = some r) : CPure Tryd.prog (GG mL) 21 [(I i_)] (S r) := itoa_ok (g := 5) Tryd.laysM171 (by kernel_rfl) (by kernel_rfl) h
noncomputable abbrev strings_TrimRight (s_ : (List UInt8)) (cutset_ : (List UInt8)) : Option (List UInt8) := trimRight? s_ cutset_
/-- strings.TrimRight, by the contract of the shelf -/
theorem strings_TrimRight_ok {mL : Int} {s_ : (List UInt8)} {cutset_ : (List UInt8)} {r : (List UInt8)} (h : strings_TrimRight s_ cutset_ = some r) : CPure Tryd.prog (GG mL) 22 [(S s_), (S cutset_)] (S r) := trimRight_ok Tryd.lays162 (by kernel_rfl) h
def a8_c1 : ACode := (.seq (.region [⟨(some 32), (.mov (.tmp 5)), none⟩, ⟨(some 33), (.faddr 1 (.tmp 1)), none⟩, ⟨(some 34), (.load false 1 (.tmp 33)), none⟩, ⟨(some 35), (.bin .add (.tmp 32) (.tmp 34)), none⟩, ⟨(some 2), (.mov (.tmp 35)), none⟩])
 .ret)
def a8_c0 : ACode := (.seq (.region [⟨(some 15), (.mov (.tmp 4)), none⟩, ⟨(some 16), (.mov (.tmp 3)), none⟩, ⟨(some 17), (.bin .quo (.tmp 16) (.const (.c (.val (.int .i64 1000))))), none⟩, ⟨(some 18), (.call 21 [(.tmp 17)]), none⟩, ⟨(some 19), (.bin .add (.tmp 15) (.tmp 18)), none⟩, ⟨(some 5), (.mov (.tmp 19)), none⟩])
 (.seq (.seq (.region [⟨(some 20), (.mov (.tmp 3)), none⟩, ⟨(some 21), (.bin .rem (.tmp 20) (.const (.c (.val (.int .i64 1000))))), none⟩, ⟨(some 22), (.bin .add (.const (.c (.val (.int .i64 1000)))) (.tmp 21)), none⟩, ⟨(some 23), (.call 21 [(.tmp 22)]), none⟩, ⟨(some 24), (.slStr (.tmp 23) (some (.const (.c (.val (.int .i64 1))))) none), none⟩, ⟨(some 25), (.call 22 [(.tmp 24), (.const (.c (.str [48])))]), none⟩, ⟨(some 6), (.mov (.tmp 25)), none⟩])
 (.seq (.region [⟨(some 26), (.mov (.tmp 6)), none⟩, ⟨(some 27), (.bin .neq (.tmp 26) (.const (.c (.str [])))), none⟩])
 (.cond (.tmp 27) (.region [⟨(some 28), (.mov (.tmp 5)), none⟩, ⟨(some 29), (.mov (.tmp 6)), none⟩, ⟨(some 30), (.bin .add (.const (.c (.str [46]))) (.tmp 29)), none⟩, ⟨(some 31), (.bin .add (.tmp 28) (.tmp 30)), none⟩, ⟨(some 5), (.mov (.tmp 31)), none⟩]) .skip)))
 a8_c1))
def a8 : AFunc := ⟨1, [(.tmp 2)], (.seq (.region [⟨(some 1), (.box (.tmp 0)), none⟩, ⟨(some 2), (.mov (.const (.c (.str [])))), none⟩])
 (.seq (.region [⟨(some 7), (.faddr 0 (.tmp 1)), none⟩, ⟨(some 8), (.load false 1 (.tmp 7)), none⟩, ⟨(some 9), (.mm true [(.tmp 8), (.const (.c (.val (.int .i64 (-1000000000)))))]), none⟩, ⟨(some 10), (.mm false [(.tmp 9), (.const (.c (.val (.int .i64 1000000000))))]), none⟩, ⟨(some 3), (.mov (.tmp 10)), none⟩])
 (.seq (.region [⟨(some 4), (.mov (.const (.c (.str [])))), none⟩])
 (.seq (.seq (.region [⟨(some 11), (.mov (.tmp 3)), none⟩, ⟨(some 12), (.bin .lss (.tmp 11) (.const (.c (.val (.int .i64 0))))), none⟩])
 (.cond (.tmp 12) (.region [⟨(some 13), (.mov (.tmp 3)), none⟩, ⟨(some 14), (.un .neg (.tmp 13)), none⟩, ⟨(some 4), (.mov (.const (.c (.str [45])))), none⟩, ⟨(some 3), (.mov (.tmp 14)), none⟩]) .skip))
 a8_c0))))⟩
set_option maxRecDepth 100000 in
theorem c8 : compFunc Tryd.prog 8 = some a8 := by kernel_rfl
def dim_Text_post (r : (List UInt8)) : AV → Heap → Nat → Prop := fun v h' n' => v = (S r) ∧ (h' = (fun _ => none)) ∧ n' = 0
noncomputable def dim_Text_j2 (d_ : TSDim) (s_ : (List UInt8)) : Option (List UInt8) :=
  (cat? s_ d_.Unit).bind fun r_2 =>
  some r_2
theorem dim_Text_j2_ok {mL : Int} {d_ : TSDim} {s_ : (List UInt8)} {o : (List UInt8)} (h : dim_Text_j2 d_ s_ = some o) :
    Sv Tryd.prog (GG mL) 0 a8_c1 (Ends a8.results 0 (dim_Text_post o)) ⟨(upd (upd (fun _ => none) 1 (some (.c (.ref 0 2 0 0)))) 5 (some (S s_))), (upd (fun _ => none) 0 (some (.cells 2 [[cI d_.Num, .str d_.Unit]]))), 1⟩ := by
  unfold dim_Text_j2 at h
  refine Sv.seq ?_
  refine Sv.region ?_
  refine un (a1 rfl ?_)
  refine un (a1 (v := (.c (.ref 0 2 0 1))) rfl ?_)
  refine un (a1 (v := (S d_.Unit)) rfl ?_)
  obtain ⟨r_2, hx2, h⟩ := bnd h
  refine un (a1 (v := (S r_2)) (s_cat rfl rfl hx2) ?_)
  refine un (a1 rfl ?_)
  refine dnil ?_
  refine Sv.ret ?_
  replace h := Option.some.inj h
  subst h
  exact ⟨_, .refl _, _, rfl, ⟨upd (fun _ => none) 0 (some (S r_2)), (fun _ => none), 0⟩, (S r_2), weak_canon [] rfl List.nodup_nil (Nat.le_refl _) (fun b h => absurd h (Nat.not_lt_zero _)) (.cons rfl (avAs_free rfl) .nil) .nil, rfl, rfl, rfl, rfl⟩
noncomputable def dim_Text_j1 (d_ : TSDim) (n_ : Int) (sign : (List UInt8)) : Option (List UInt8) :=
  (strconv_Itoa (wi (n_.tdiv 1000))).bind fun r_ =>
  (cat? sign r_).bind fun r_1 =>
  (strconv_Itoa (wi (1000 + (n_.tmod 1000)))).bind fun r_3 =>
  (sub? r_3 1 (r_3.length : Int)).bind fun r_4 =>
  (strings_TrimRight r_4 [48]).bind fun r_5 =>
  if (!decide (r_5 = [])) then
    (cat? [46] r_5).bind fun r_6 =>
    (cat? r_1 r_6).bind fun r_7 =>
    dim_Text_j2 d_ r_7
  else
    dim_Text_j2 d_ r_1
theorem dim_Text_j1_ok {mL : Int} {d_ : TSDim} {n_ : Int} {sign : (List UInt8)} {o : (List UInt8)} (h : dim_Text_j1 d_ n_ sign = some o) :
    Sv Tryd.prog (GG mL) 0 a8_c0 (Ends a8.results 0 (dim_Text_post o)) ⟨(upd (upd (upd (fun _ => none) 1 (some (.c (.ref 0 2 0 0)))) 3 (some (I n_))) 4 (some (S sign))), (upd (fun _ => none) 0 (some (.cells 2 [[cI d_.Num, .str d_.Unit]]))), 1⟩ := by
  unfold dim_Text_j1 at h
  refine Sv.seq ?_
  refine Sv.region ?_
  refine un (a1 rfl ?_)
  refine un (a1 rfl ?_)
  refine un (a1 (v := (I (wi (n_.tdiv 1000)))) rfl ?_)
  obtain ⟨r_, hr1, h⟩ := bnd h
  refine un (ac_pure (strconv_Itoa_ok hr1) rfl rfl rfl ?_)
  obtain ⟨r_1, hx1, h⟩ := bnd h
  refine un (a1 (v := (S r_1)) (s_cat rfl rfl hx1) ?_)
  refine un (a1 rfl ?_)
  refine dnil ?_
  refine Sv.seq ?_
  refine Sv.seq ?_
  refine Sv.region ?_
  refine un (a1 rfl ?_)
  refine un (a1 (v := (I (n_.tmod 1000))) rfl ?_)
  refine un (a1 (v := (I (wi (1000 + (n_.tmod 1000))))) rfl ?_)
  obtain ⟨r_3, hr2, h⟩ := bnd h
  refine un (ac_pure (strconv_Itoa_ok hr2) rfl rfl rfl ?_)
  obtain ⟨r_4, hx3, h⟩ := bnd h
  refine un (a1 (v := (S r_4)) (s_slStr rfl rfl rfl hx3) ?_)
  obtain ⟨r_5, hr3, h⟩ := bnd h
  refine un (ac_pure (strings_TrimRight_ok hr3) rfl rfl rfl ?_)
  refine un (a1 rfl ?_)
  refine dnil ?_
  refine Sv.seq ?_
  refine Sv.region ?_
  refine un (a1 rfl ?_)
  refine un (a1 (v := (B (!decide (r_5 = [])))) rfl ?_)
  refine dnil ?_
  refine Sv.cond (b := (!decide (r_5 = []))) rfl (fun hc1 => ?_) (fun hc1 => ?_)
  · replace h := ifT hc1 h
    refine Sv.region ?_
    refine un (a1 rfl ?_)
    refine un (a1 rfl ?_)
    obtain ⟨r_6, hx4, h⟩ := bnd h
    refine un (a1 (v := (S r_6)) (s_cat rfl rfl hx4) ?_)
    obtain ⟨r_7, hx5, h⟩ := bnd h
    refine un (a1 (v := (S r_7)) (s_cat rfl rfl hx5) ?_)
    refine un (a1 rfl ?_)
    refine dnil ?_
    exact Sv.weak (weak_canon [0] rfl (by decide) (by decide) (fun b h => absurd h (Nat.not_lt_zero _)) (.cons rfl (avAs_free rfl) (.cons rfl (.c (.ref rfl (by decide))) .nil)) (.box (by decide) rfl (blkAs_cells (.cons (.same rfl) (.cons (.same rfl) .nil))) .nil)) (dim_Text_j2_ok h)
  · replace h := ifF hc1 h
    refine Sv.skip ?_
    exact Sv.weak (weak_canon [0] rfl (by decide) (by decide) (fun b h => absurd h (Nat.not_lt_zero _)) (.cons rfl (avAs_free rfl) (.cons rfl (.c (.ref rfl (by decide))) .nil)) (.box (by decide) rfl (blkAs_cells (.cons (.same rfl) (.cons (.same rfl) .nil))) .nil)) (dim_Text_j2_ok h)
/-- clerestory/dim.Text -/
noncomputable def dim_Text (d_ : TSDim) : Option (List UInt8) :=
  if decide ((mn (mx d_.Num (-1000000000)) 1000000000) < 0) then
    dim_Text_j1 d_ (wi (0 - (mn (mx d_.Num (-1000000000)) 1000000000))) [45]
  else
    dim_Text_j1 d_ (mn (mx d_.Num (-1000000000)) 1000000000) []
theorem dim_Text_ok {mL : Int} {d_ : TSDim} {r : (List UInt8)} (h : dim_Text d_ = some r) : CPure Tryd.prog (GG mL) 8 [(.agg [cI d_.Num, .str d_.Unit])] (S r) := by
  refine acalls_of_sv hmix c8 (R := dim_Text_post r) ?_
  unfold dim_Text at h
  refine Sv.seq ?_
  refine Sv.region ?_
  refine un (a2v (v := (.c (.ref 0 2 0 0))) (h' := upd _ 0 (some (.cells 2 [[cI d_.Num, .str d_.Unit]]))) (n' := 1) rfl rfl (fun h => by cases h) ?_)
  refine un (a1 rfl ?_)
  refine dnil ?_
  refine Sv.seq ?_
  refine Sv.region ?_
  refine un (a1 (v := (.c (.ref 0 2 0 0))) rfl ?_)
  refine un (a1 (v := (I d_.Num)) rfl ?_)
  refine un (a1 (v := (I (mx d_.Num (-1000000000)))) (s_mx rfl rfl) ?_)
  refine un (a1 (v := (I (mn (mx d_.Num (-1000000000)) 1000000000))) (s_mn rfl rfl) ?_)
  refine un (a1 rfl ?_)
  refine dnil ?_
  refine Sv.seq ?_
  refine Sv.region ?_
  refine un (a1 rfl ?_)
  refine dnil ?_
  refine Sv.seq ?_
  refine Sv.seq ?_
  refine Sv.region ?_
  refine un (a1 rfl ?_)
  refine un (a1 (v := (B (decide ((mn (mx d_.Num (-1000000000)) 1000000000) < 0)))) rfl ?_)
  refine dnil ?_
  refine Sv.cond (b := decide ((mn (mx d_.Num (-1000000000)) 1000000000) < 0)) rfl (fun hc2 => ?_) (fun hc2 => ?_)
  · replace h := ifT hc2 h
    refine Sv.region ?_
    refine un (a1 rfl ?_)
    refine un (a1 (v := (I (wi (0 - (mn (mx d_.Num (-1000000000)) 1000000000))))) rfl ?_)
    refine un (a1 rfl ?_)
    refine un (a1 rfl ?_)
    refine dnil ?_
    exact Sv.weak (weak_canon [0] rfl (by decide) (by decide) (fun b h => absurd h (Nat.not_lt_zero _)) (.cons rfl (avAs_free rfl) (.cons rfl (avAs_free rfl) (.cons rfl (.c (.ref rfl (by decide))) .nil))) (.box (by decide) rfl (blkAs_cells (.cons (.same rfl) (.cons (.same rfl) .nil))) .nil)) (dim_Text_j1_ok h)
  · replace h := ifF hc2 h
    refine Sv.skip ?_
    exact Sv.weak (weak_canon [0] rfl (by decide) (by decide) (fun b h => absurd h (Nat.not_lt_zero _)) (.cons rfl (avAs_free rfl) (.cons rfl (avAs_free rfl) (.cons rfl (.c (.ref rfl (by decide))) .nil))) (.box (by decide) rfl (blkAs_cells (.cons (.same rfl) (.cons (.same rfl) .nil))) .nil)) (dim_Text_j1_ok h)
def a23_c0 : ACode := (.seq (.region [⟨(some 17), (.mov (.tmp 3)), none⟩, ⟨(some 2), (.mov (.tmp 17)), none⟩])
 .ret)
def a23 : AFunc := ⟨1, [(.tmp 2)], (.seq (.region [⟨(some 2), (.mov (.const (.c (.str [])))), none⟩])
 (.seq (.region [⟨(some 4), (.mov (.tmp 0)), none⟩, ⟨(some 5), (.bin .rem (.tmp 4) (.const (.c (.val (.int .i64 10))))), none⟩, ⟨(some 6), (.bin .add (.const (.c (.val (.int .i64 48)))) (.tmp 5)), none⟩, ⟨(some 7), (.conv .u8 (.tmp 6)), none⟩, ⟨(some 8), (.bslice 1 [(.val (.int .u8 0))] 1 [(0, (.tmp 7))]), none⟩, ⟨(some 9), (.ofBytes (.tmp 8)), none⟩, ⟨(some 3), (.mov (.tmp 9)), none⟩])
 (.seq (.seq (.region [⟨(some 10), (.mov (.tmp 0)), none⟩, ⟨(some 11), (.bin .gtr (.tmp 10) (.const (.c (.val (.int .i64 9))))), none⟩])
 (.cond (.tmp 11) (.region [⟨(some 12), (.mov (.tmp 0)), none⟩, ⟨(some 13), (.bin .quo (.tmp 12) (.const (.c (.val (.int .i64 10))))), none⟩, ⟨(some 14), (.call 23 [(.tmp 13)]), none⟩, ⟨(some 15), (.mov (.tmp 3)), none⟩, ⟨(some 16), (.bin .add (.tmp 14) (.tmp 15)), none⟩, ⟨(some 3), (.mov (.tmp 16)), none⟩]) .skip))
 a23_c0)))⟩
set_option maxRecDepth 100000 in
theorem c23 : compFunc Tryd.prog 23 = some a23 := by kernel_rfl
def clerestoryref2_Digits_post (r : (List UInt8)) : AV → Heap → Nat → Prop := fun v h' n' => v = (S r) ∧ (h' = (fun _ => none)) ∧ n' = 0
def clerestoryref2_Digits_Rec (mL : Int) (recf : Int → Option (List UInt8)) : Prop := ∀ (n_ : Int) (r : (List UInt8)), recf n_ = some r → CPure Tryd.prog (GG mL) 23 [(I n_)] (S r)
noncomputable def clerestoryref2_Digits_j1 (s_ : (List UInt8)) : Option (List UInt8) :=
  some s_
theorem clerestoryref2_Digits_j1_ok {mL : Int} {s_ : (List UInt8)} {o : (List UInt8)} (h : clerestoryref2_Digits_j1 s_ = some o) :
    Sv Tryd.prog (GG mL) 0 a23_c0 (Ends a23.results 0 (clerestoryref2_Digits_post o)) ⟨(upd (fun _ => none) 3 (some (S s_))), (fun _ => none), 0⟩ := by
  unfold clerestoryref2_Digits_j1 at h
  refine Sv.seq ?_
  refine Sv.region ?_
  refine un (a1 rfl ?_)
  refine un (a1 rfl ?_)
  refine dnil ?_
  refine Sv.ret ?_
  replace h := Option.some.inj h
  subst h
  exact ⟨_, .refl _, _, rfl, ⟨upd (fun _ => none) 0 (some (S s_)), (fun _ => none), 0⟩, (S s_), weak_canon [] rfl List.nodup_nil (Nat.le_refl _) (fun b h => absurd h (Nat.not_lt_zero _)) (.cons rfl (avAs_free rfl) .nil) .nil, rfl, rfl, rfl, rfl⟩
/-- clerestory/clerestoryref2.Digits -/
noncomputable def clerestoryref2_Digits_r : Nat → Int → Option (List UInt8)
  | 0, _ => none
  | k + 1, n_ =>
    if decide (9 < n_) then
      ((clerestoryref2_Digits_r k) (wi (n_.tdiv 10))).bind fun r_ =>
      (cat? r_ (byts [(wr .u8 (wi (48 + (n_.tmod 10))))])).bind fun r_1 =>
      clerestoryref2_Digits_j1 r_1
    else
      clerestoryref2_Digits_j1 (byts [(wr .u8 (wi (48 + (n_.tmod 10))))])
noncomputable def clerestoryref2_Digits (n_ : Int) : Option (List UInt8) :=
  lim fun kr => clerestoryref2_Digits_r kr n_
theorem clerestoryref2_Digits_r_ok {mL : Int} (k : Nat) : clerestoryref2_Digits_Rec mL (clerestoryref2_Digits_r k) := by
  induction k with
  | zero => intro n_ r h; cases h
  | succ k hrec =>
  intro n_ r h
  refine acalls_of_sv hmix c23 (R := clerestoryref2_Digits_post r) ?_
  rw [clerestoryref2_Digits_r] at h
  refine Sv.seq ?_
  refine Sv.region ?_
  refine un (a1 rfl ?_)
  refine dnil ?_
  refine Sv.seq ?_
  refine Sv.region ?_
  refine un (a1 rfl ?_)
  refine un (a1 (v := (I (n_.tmod 10))) rfl ?_)
  refine un (a1 (v := (I (wi (48 + (n_.tmod 10))))) rfl ?_)
  refine un (a1 (v := (.c (.val (.int .u8 (wr .u8 (wi (48 + (n_.tmod 10)))))))) rfl ?_)
  refine un (a2v (v := (lstV false 0 1 [(wr .u8 (wi (48 + (n_.tmod 10))))].length)) (h' := upd _ 0 (lstB false 1 ([(wr .u8 (wi (48 + (n_.tmod 10))))].map (eK .u8)))) (n' := 1) rfl rfl (fun h => by cases h) ?_)
  refine un (a1 (v := (S (byts [(wr .u8 (wi (48 + (n_.tmod 10))))]))) (s_ofBytes (xs := [(wr .u8 (wi (48 + (n_.tmod 10))))]) rfl (slc_lst rfl (List.length_map _).symm (map_nil_of (fun h => by cases h)))) ?_)
  refine un (a1 rfl ?_)
  refine dnil ?_
  refine Sv.seq ?_
  refine Sv.seq ?_
  refine Sv.region ?_
  refine un (a1 rfl ?_)
  refine un (a1 (v := (B (decide (9 < n_)))) rfl ?_)
  refine dnil ?_
  refine Sv.cond (b := decide (9 < n_)) rfl (fun hc1 => ?_) (fun hc1 => ?_)
  · replace h := ifT hc1 h
    refine Sv.region ?_
    refine un (a1 rfl ?_)
    refine un (a1 (v := (I (wi (n_.tdiv 10)))) rfl ?_)
    obtain ⟨r_, hr1, h⟩ := bnd h
    refine un (ac_pure (hrec (wi (n_.tdiv 10)) _ hr1) rfl rfl rfl ?_)
    refine un (a1 rfl ?_)
    obtain ⟨r_1, hx1, h⟩ := bnd h
    refine un (a1 (v := (S r_1)) (s_cat rfl rfl hx1) ?_)
    refine un (a1 rfl ?_)
    refine dnil ?_
    exact Sv.weak (weak_canon [] rfl (by decide) (by decide) (fun b h => absurd h (Nat.not_lt_zero _)) (.cons rfl (avAs_free rfl) .nil) .nil) (clerestoryref2_Digits_j1_ok h)
  · replace h := ifF hc1 h
    refine Sv.skip ?_
    exact Sv.weak (weak_canon [] rfl (by decide) (by decide) (fun b h => absurd h (Nat.not_lt_zero _)) (.cons rfl (avAs_free rfl) .nil) .nil) (clerestoryref2_Digits_j1_ok h)
theorem clerestoryref2_Digits_ok {mL : Int} {n_ : Int} {r : (List UInt8)} (h : clerestoryref2_Digits n_ = some r) : CPure Tryd.prog (GG mL) 23 [(I n_)] (S r) := by
  unfold clerestoryref2_Digits at h
  obtain ⟨k, h⟩ := lim_some h
  exact clerestoryref2_Digits_r_ok k n_  r h
def a9_c0 : ACode := (.seq (.seq (.region [⟨(some 27), (.mov (.tmp 7)), none⟩, ⟨(some 28), (.mov (.tmp 7)), none⟩, ⟨(some 29), (.lenS (.tmp 28)), none⟩, ⟨(some 30), (.bin .sub (.tmp 29) (.const (.c (.val (.int .i64 1))))), none⟩, ⟨(some 31), (.idxS (.tmp 27) (.tmp 30)), none⟩, ⟨(some 32), (.bin .eql (.tmp 31) (.const (.c (.val (.int .u8 48))))), none⟩])
 (.cond (.tmp 32) .skip (.exit 0)))
 (.block 1 (.region [⟨(some 33), (.mov (.tmp 7)), none⟩, ⟨(some 34), (.mov (.tmp 7)), none⟩, ⟨(some 35), (.lenS (.tmp 34)), none⟩, ⟨(some 36), (.bin .sub (.tmp 35) (.const (.c (.val (.int .i64 1))))), none⟩, ⟨(some 37), (.slStr (.tmp 33) none (some (.tmp 36))), none⟩, ⟨(some 7), (.mov (.tmp 37)), none⟩])))
def a9_c2 : ACode := (.seq (.region [⟨(some 46), (.mov (.tmp 5)), none⟩, ⟨(some 47), (.faddr 1 (.tmp 1)), none⟩, ⟨(some 48), (.load false 1 (.tmp 47)), none⟩, ⟨(some 49), (.bin .add (.tmp 46) (.tmp 48)), none⟩, ⟨(some 2), (.mov (.tmp 49)), none⟩])
 .ret)
def a9_c1 : ACode := (.seq (.seq (.region [⟨(some 42), (.mov (.tmp 3)), none⟩, ⟨(some 43), (.bin .lss (.tmp 42) (.const (.c (.val (.int .i64 0))))), none⟩])
 (.cond (.tmp 43) (.region [⟨(some 44), (.mov (.tmp 5)), none⟩, ⟨(some 45), (.bin .add (.const (.c (.str [45]))) (.tmp 44)), none⟩, ⟨(some 5), (.mov (.tmp 45)), none⟩]) .skip))
 a9_c2)
def a9 : AFunc := ⟨1, [(.tmp 2)], (.seq (.region [⟨(some 1), (.box (.tmp 0)), none⟩, ⟨(some 2), (.mov (.const (.c (.str [])))), none⟩])
 (.seq (.region [⟨(some 8), (.faddr 0 (.tmp 1)), none⟩, ⟨(some 9), (.load false 1 (.tmp 8)), none⟩, ⟨(some 10), (.mm false [(.tmp 9), (.const (.c (.val (.int .i64 1000000000))))]), none⟩, ⟨(some 11), (.mm true [(.const (.c (.val (.int .i64 (-1000000000))))), (.tmp 10)]), none⟩, ⟨(some 3), (.mov (.tmp 11)), none⟩])
 (.seq (.region [⟨(some 12), (.mov (.tmp 3)), none⟩, ⟨(some 13), (.mov (.tmp 3)), none⟩, ⟨(some 14), (.bin .sub (.const (.c (.val (.int .i64 0)))) (.tmp 13)), none⟩, ⟨(some 15), (.mm true [(.tmp 12), (.tmp 14)]), none⟩, ⟨(some 4), (.mov (.tmp 15)), none⟩])
 (.seq (.region [⟨(some 16), (.mov (.tmp 4)), none⟩, ⟨(some 17), (.bin .quo (.tmp 16) (.const (.c (.val (.int .i64 1000))))), none⟩, ⟨(some 18), (.call 23 [(.tmp 17)]), none⟩, ⟨(some 5), (.mov (.tmp 18)), none⟩])
 (.seq (.region [⟨(some 19), (.mov (.tmp 4)), none⟩, ⟨(some 20), (.bin .rem (.tmp 19) (.const (.c (.val (.int .i64 1000))))), none⟩, ⟨(some 6), (.mov (.tmp 20)), none⟩])
 (.seq (.seq (.region [⟨(some 21), (.mov (.tmp 6)), none⟩, ⟨(some 22), (.bin .gtr (.tmp 21) (.const (.c (.val (.int .i64 0))))), none⟩])
 (.cond (.tmp 22) (.seq (.region [⟨(some 23), (.mov (.tmp 6)), none⟩, ⟨(some 24), (.bin .add (.const (.c (.val (.int .i64 1000)))) (.tmp 23)), none⟩, ⟨(some 25), (.call 23 [(.tmp 24)]), none⟩, ⟨(some 26), (.slStr (.tmp 25) (some (.const (.c (.val (.int .i64 1))))) none), none⟩, ⟨(some 7), (.mov (.tmp 26)), none⟩])
 (.seq (.block 0 (.loop a9_c0))
 (.region [⟨(some 38), (.mov (.tmp 5)), none⟩, ⟨(some 39), (.bin .add (.tmp 38) (.const (.c (.str [46])))), none⟩, ⟨(some 40), (.mov (.tmp 7)), none⟩, ⟨(some 41), (.bin .add (.tmp 39) (.tmp 40)), none⟩, ⟨(some 5), (.mov (.tmp 41)), none⟩]))) .skip))
 a9_c1))))))⟩
set_option maxRecDepth 100000 in
theorem c9 : compFunc Tryd.prog 9 = some a9 := by kernel_rfl
def clerestoryref2_DimText_post (r : (List UInt8)) : AV → Heap → Nat → Prop := fun v h' n' => v = (S r) ∧ (h' = (fun _ => none)) ∧ n' = 0
noncomputable def clerestoryref2_DimText_j2 (d_ : TSDim) (s_1 : (List UInt8)) : Option (List UInt8) :=
  (cat? s_1 d_.Unit).bind fun r_1 =>
  some r_1
theorem clerestoryref2_DimText_j2_ok {mL : Int} {d_ : TSDim} {s_1 : (List UInt8)} {o : (List UInt8)} (h : clerestoryref2_DimText_j2 d_ s_1 = some o) :
    Sv Tryd.prog (GG mL) 0 a9_c2 (Ends a9.results 0 (clerestoryref2_DimText_post o)) ⟨(upd (upd (fun _ => none) 1 (some (.c (.ref 0 2 0 0)))) 5 (some (S s_1))), (upd (fun _ => none) 0 (some (.cells 2 [[cI d_.Num, .str d_.Unit]]))), 1⟩ := by
  unfold clerestoryref2_DimText_j2 at h
  refine Sv.seq ?_
  refine Sv.region ?_
  refine un (a1 rfl ?_)
  refine un (a1 (v := (.c (.ref 0 2 0 1))) rfl ?_)
  refine un (a1 (v := (S d_.Unit)) rfl ?_)
  obtain ⟨r_1, hx1, h⟩ := bnd h
  refine un (a1 (v := (S r_1)) (s_cat rfl rfl hx1) ?_)
  refine un (a1 rfl ?_)
  refine dnil ?_
  refine Sv.ret ?_
  replace h := Option.some.inj h
  subst h
  exact ⟨_, .refl _, _, rfl, ⟨upd (fun _ => none) 0 (some (S r_1)), (fun _ => none), 0⟩, (S r_1), weak_canon [] rfl List.nodup_nil (Nat.le_refl _) (fun b h => absurd h (Nat.not_lt_zero _)) (.cons rfl (avAs_free rfl) .nil) .nil, rfl, rfl, rfl, rfl⟩
noncomputable def clerestoryref2_DimText_j1 (d_ : TSDim) (s_ : (List UInt8)) : Option (List UInt8) :=
  if decide ((mx (-1000000000) (mn d_.Num 1000000000)) < 0) then
    (cat? [45] s_).bind fun r_2 =>
    clerestoryref2_DimText_j2 d_ r_2
  else
    clerestoryref2_DimText_j2 d_ s_
theorem clerestoryref2_DimText_j1_ok {mL : Int} {d_ : TSDim} {s_ : (List UInt8)} {o : (List UInt8)} (h : clerestoryref2_DimText_j1 d_ s_ = some o) :
    Sv Tryd.prog (GG mL) 0 a9_c1 (Ends a9.results 0 (clerestoryref2_DimText_post o)) ⟨(upd (upd (upd (fun _ => none) 1 (some (.c (.ref 0 2 0 0)))) 3 (some (I (mx (-1000000000) (mn d_.Num 1000000000))))) 5 (some (S s_))), (upd (fun _ => none) 0 (some (.cells 2 [[cI d_.Num, .str d_.Unit]]))), 1⟩ := by
  unfold clerestoryref2_DimText_j1 at h
  refine Sv.seq ?_
  refine Sv.seq ?_
  refine Sv.region ?_
  refine un (a1 rfl ?_)
  refine un (a1 (v := (B (decide ((mx (-1000000000) (mn d_.Num 1000000000)) < 0)))) rfl ?_)
  refine dnil ?_
  refine Sv.cond (b := decide ((mx (-1000000000) (mn d_.Num 1000000000)) < 0)) rfl (fun hc1 => ?_) (fun hc1 => ?_)
  · replace h := ifT hc1 h
    refine Sv.region ?_
    refine un (a1 rfl ?_)
    obtain ⟨r_2, hx2, h⟩ := bnd h
    refine un (a1 (v := (S r_2)) (s_cat rfl rfl hx2) ?_)
    refine un (a1 rfl ?_)
    refine dnil ?_
    exact Sv.weak (weak_canon [0] rfl (by decide) (by decide) (fun b h => absurd h (Nat.not_lt_zero _)) (.cons rfl (avAs_free rfl) (.cons rfl (.c (.ref rfl (by decide))) .nil)) (.box (by decide) rfl (blkAs_cells (.cons (.same rfl) (.cons (.same rfl) .nil))) .nil)) (clerestoryref2_DimText_j2_ok h)
  · replace h := ifF hc1 h
    refine Sv.skip ?_
    exact Sv.weak (weak_canon [0] rfl (by decide) (by decide) (fun b h => absurd h (Nat.not_lt_zero _)) (.cons rfl (avAs_free rfl) (.cons rfl (.c (.ref rfl (by decide))) .nil)) (.box (by decide) rfl (blkAs_cells (.cons (.same rfl) (.cons (.same rfl) .nil))) .nil)) (clerestoryref2_DimText_j2_ok h)
noncomputable def clerestoryref2_DimText_l2 (d_ : TSDim) (r_ : (List UInt8)) (K0_ : (List UInt8) → Option (List UInt8)) : Nat → (List UInt8) → Option (List UInt8)
  | 0, _ => none
  | k + 1, t_ =>
    (at? t_ (wi ((t_.length : Int) - 1))).bind fun c_ =>
    if decide ((c_.toNat : Int) = 48) then
      (sub? t_ 0 (wi ((t_.length : Int) - 1))).bind fun r_5 =>
      (clerestoryref2_DimText_l2 d_ r_ K0_ k) r_5
    else
      K0_ t_
theorem clerestoryref2_DimText_l2_ok {mL : Int} {Q : AExit → St → Prop} {d_ : TSDim} {r_ : (List UInt8)} {K0_ : (List UInt8) → Option (List UInt8)} {k : Nat} {t_ : (List UInt8)} {o : (List UInt8)} (h : clerestoryref2_DimText_l2 d_ r_ K0_ k t_ = some o)
    (hK0 : ∀ (t_1 : (List UInt8)), K0_ t_1 = some o → ∀ s, Weak 0 s ⟨(upd (upd (upd (upd (fun _ => none) 1 (some (.c (.ref 0 2 0 0)))) 3 (some (I (mx (-1000000000) (mn d_.Num 1000000000))))) 5 (some (S r_))) 7 (some (S t_1))), (upd (fun _ => none) 0 (some (.cells 2 [[cI d_.Num, .str d_.Unit]]))), 1⟩ → Q (.exit 0) s)
    (hr : ∀ s, Ends a9.results 0 (clerestoryref2_DimText_post o) .ret s → Q .ret s) :
    Sv Tryd.prog (GG mL) 0 (.loop a9_c0) Q ⟨(upd (upd (upd (upd (fun _ => none) 1 (some (.c (.ref 0 2 0 0)))) 3 (some (I (mx (-1000000000) (mn d_.Num 1000000000))))) 5 (some (S r_))) 7 (some (S t_))), (upd (fun _ => none) 0 (some (.cells 2 [[cI d_.Num, .str d_.Unit]]))), 1⟩ := by
  refine Sv.loop (I := fun k s => ∃ (t_ : (List UInt8)), clerestoryref2_DimText_l2 d_ r_ K0_ k t_ = some o ∧ s = ⟨(upd (upd (upd (upd (fun _ => none) 1 (some (.c (.ref 0 2 0 0)))) 3 (some (I (mx (-1000000000) (mn d_.Num 1000000000))))) 5 (some (S r_))) 7 (some (S t_))), (upd (fun _ => none) 0 (some (.cells 2 [[cI d_.Num, .str d_.Unit]]))), 1⟩) (fun k s hI => ?_) ⟨t_, h, rfl⟩
  clear h
  clear t_
  obtain ⟨t_, h, rfl⟩ := hI
  cases k with
  | zero => cases h
  | succ k =>
  rw [clerestoryref2_DimText_l2] at h
  have hself : ∀ (t_ : (List UInt8)), (clerestoryref2_DimText_l2 d_ r_ K0_ k) t_ = some o → ∀ s, Weak 0 s ⟨(upd (upd (upd (upd (fun _ => none) 1 (some (.c (.ref 0 2 0 0)))) 3 (some (I (mx (-1000000000) (mn d_.Num 1000000000))))) 5 (some (S r_))) 7 (some (S t_))), (upd (fun _ => none) 0 (some (.cells 2 [[cI d_.Num, .str d_.Unit]]))), 1⟩ → (AThen (fun s' => ∃ s'' k', Weak 0 s' s'' ∧ k' < k + 1 ∧ (fun k s => ∃ (t_ : (List UInt8)), clerestoryref2_DimText_l2 d_ r_ K0_ k t_ = some o ∧ s = ⟨(upd (upd (upd (upd (fun _ => none) 1 (some (.c (.ref 0 2 0 0)))) 3 (some (I (mx (-1000000000) (mn d_.Num 1000000000))))) 5 (some (S r_))) 7 (some (S t_))), (upd (fun _ => none) 0 (some (.cells 2 [[cI d_.Num, .str d_.Unit]]))), 1⟩) k' s'') Q) .normal s := fun t_ h s hw => ⟨_, k, hw, Nat.lt_succ_self k, t_, h, rfl⟩
  refine Sv.seq ?_
  refine Sv.seq ?_
  refine Sv.region ?_
  refine un (a1 rfl ?_)
  refine un (a1 rfl ?_)
  refine un (a1 (v := (I (t_.length : Int))) rfl ?_)
  refine un (a1 (v := (I (wi ((t_.length : Int) - 1)))) rfl ?_)
  obtain ⟨c_, hx4, h⟩ := bnd h
  refine un (a1 (v := (.c (.val (.int .u8 (c_.toNat : Int))))) (s_idxS rfl rfl hx4) ?_)
  refine un (a1 (v := (B (decide ((c_.toNat : Int) = 48)))) rfl ?_)
  refine dnil ?_
  refine Sv.cond (b := decide ((c_.toNat : Int) = 48)) rfl (fun hc3 => ?_) (fun hc3 => ?_)
  · replace h := ifT hc3 h
    refine Sv.skip ?_
    refine Sv.block ?_
    refine Sv.region ?_
    refine un (a1 rfl ?_)
    refine un (a1 rfl ?_)
    refine un (a1 (v := (I (t_.length : Int))) rfl ?_)
    refine un (a1 (v := (I (wi ((t_.length : Int) - 1)))) rfl ?_)
    obtain ⟨r_5, hx5, h⟩ := bnd h
    refine un (a1 (v := (S r_5)) (s_slStr rfl rfl rfl hx5) ?_)
    refine un (a1 rfl ?_)
    refine dnil ?_
    exact hself r_5 h _ (weak_canon [0] rfl (by decide) (by decide) (fun b h => absurd h (Nat.not_lt_zero _)) (.cons rfl (avAs_free rfl) (.cons rfl (avAs_free rfl) (.cons rfl (avAs_free rfl) (.cons rfl (.c (.ref rfl (by decide))) .nil)))) (.box (by decide) rfl (blkAs_cells (.cons (.same rfl) (.cons (.same rfl) .nil))) .nil))
  · replace h := ifF hc3 h
    refine Sv.exit ?_
    exact hK0 t_ h _ (weak_canon [0] rfl (by decide) (by decide) (fun b h => absurd h (Nat.not_lt_zero _)) (.cons rfl (avAs_free rfl) (.cons rfl (avAs_free rfl) (.cons rfl (avAs_free rfl) (.cons rfl (.c (.ref rfl (by decide))) .nil)))) (.box (by decide) rfl (blkAs_cells (.cons (.same rfl) (.cons (.same rfl) .nil))) .nil))
/-- clerestory/clerestoryref2.DimText -/
noncomputable def clerestoryref2_DimText (d_ : TSDim) : Option (List UInt8) :=
  letIn (wi ((mx (mx (-1000000000) (mn d_.Num 1000000000)) (wi (0 - (mx (-1000000000) (mn d_.Num 1000000000))))).tdiv 1000)) fun v17 : Int =>
  (clerestoryref2_Digits v17).bind fun r_ =>
  letIn ((mx (mx (-1000000000) (mn d_.Num 1000000000)) (wi (0 - (mx (-1000000000) (mn d_.Num 1000000000))))).tmod 1000) fun v20 : Int =>
  if decide (0 < v20) then
    (clerestoryref2_Digits (wi (1000 + v20))).bind fun r_3 =>
    (sub? r_3 1 (r_3.length : Int)).bind fun r_4 =>
    lim fun kk => clerestoryref2_DimText_l2 d_ r_ (fun (t_1 : (List UInt8)) => 
        (cat? r_ [46]).bind fun r_6 =>
        (cat? r_6 t_1).bind fun r_7 =>
        clerestoryref2_DimText_j1 d_ r_7) kk r_4
  else
    clerestoryref2_DimText_j1 d_ r_
theorem clerestoryref2_DimText_ok {mL : Int} {d_ : TSDim} {r : (List UInt8)} (h : clerestoryref2_DimText d_ = some r) : CPure Tryd.prog (GG mL) 9 [(.agg [cI d_.Num, .str d_.Unit])] (S r) := by
  refine acalls_of_sv hmix c9 (R := clerestoryref2_DimText_post r) ?_
  unfold clerestoryref2_DimText at h
  refine Sv.seq ?_
  refine Sv.region ?_
  refine un (a2v (v := (.c (.ref 0 2 0 0))) (h' := upd _ 0 (some (.cells 2 [[cI d_.Num, .str d_.Unit]]))) (n' := 1) rfl rfl (fun h => by cases h) ?_)
  refine un (a1 rfl ?_)
  refine dnil ?_
  refine Sv.seq ?_
  refine Sv.region ?_
  refine un (a1 (v := (.c (.ref 0 2 0 0))) rfl ?_)
  refine un (a1 (v := (I d_.Num)) rfl ?_)
  refine un (a1 (v := (I (mn d_.Num 1000000000))) (s_mn rfl rfl) ?_)
  refine un (a1 (v := (I (mx (-1000000000) (mn d_.Num 1000000000)))) (s_mx rfl rfl) ?_)
  refine un (a1 rfl ?_)
  refine dnil ?_
  refine Sv.seq ?_
  refine Sv.region ?_
  refine un (a1 rfl ?_)
  refine un (a1 rfl ?_)
  refine un (a1 (v := (I (wi (0 - (mx (-1000000000) (mn d_.Num 1000000000)))))) rfl ?_)
  refine un (a1 (v := (I (mx (mx (-1000000000) (mn d_.Num 1000000000)) (wi (0 - (mx (-1000000000) (mn d_.Num 1000000000))))))) (s_mx rfl rfl) ?_)
  refine un (a1 rfl ?_)
  refine dnil ?_
  refine Sv.seq ?_
  refine Sv.region ?_
  refine un (a1 rfl ?_)
  obtain ⟨v17, hv17⟩ : ∃ v17 : Int, v17 = (wi ((mx (mx (-1000000000) (mn d_.Num 1000000000)) (wi (0 - (mx (-1000000000) (mn d_.Num 1000000000))))).tdiv 1000)) := ⟨_, rfl⟩
  replace h := letAt hv17 h
  refine un (a1 (v := (I v17)) (by rw [hv17]; rfl) ?_)
  clear hv17
  obtain ⟨r_, hr1, h⟩ := bnd h
  refine un (ac_pure (clerestoryref2_Digits_ok hr1) rfl rfl rfl ?_)
  refine un (a1 rfl ?_)
  refine dnil ?_
  refine Sv.seq ?_
  refine Sv.region ?_
  refine un (a1 rfl ?_)
  obtain ⟨v20, hv20⟩ : ∃ v20 : Int, v20 = ((mx (mx (-1000000000) (mn d_.Num 1000000000)) (wi (0 - (mx (-1000000000) (mn d_.Num 1000000000))))).tmod 1000) := ⟨_, rfl⟩
  replace h := letAt hv20 h
  refine un (a1 (v := (I v20)) (by rw [hv20]; rfl) ?_)
  clear hv20
  refine un (a1 rfl ?_)
  refine dnil ?_
  refine Sv.seq ?_
  refine Sv.seq ?_
  refine Sv.region ?_
  refine un (a1 rfl ?_)
  refine un (a1 (v := (B (decide (0 < v20)))) rfl ?_)
  refine dnil ?_
  refine Sv.cond (b := decide (0 < v20)) rfl (fun hc2 => ?_) (fun hc2 => ?_)
  · replace h := ifT hc2 h
    refine Sv.seq ?_
    refine Sv.region ?_
    refine un (a1 rfl ?_)
    refine un (a1 (v := (I (wi (1000 + v20)))) rfl ?_)
    obtain ⟨r_3, hr2, h⟩ := bnd h
    refine un (ac_pure (clerestoryref2_Digits_ok hr2) rfl rfl rfl ?_)
    obtain ⟨r_4, hx3, h⟩ := bnd h
    refine un (a1 (v := (S r_4)) (s_slStr rfl rfl rfl hx3) ?_)
    refine un (a1 rfl ?_)
    refine dnil ?_
    refine Sv.seq ?_
    refine Sv.block ?_
    obtain ⟨kk, h⟩ := lim_some h
    refine Sv.weak (weak_canon [0] rfl (by decide) (by decide) (fun b h => absurd h (Nat.not_lt_zero _)) (.cons rfl (avAs_free rfl) (.cons rfl (avAs_free rfl) (.cons rfl (avAs_free rfl) (.cons rfl (.c (.ref rfl (by decide))) .nil)))) (.box (by decide) rfl (blkAs_cells (.cons (.same rfl) (.cons (.same rfl) .nil))) .nil)) (clerestoryref2_DimText_l2_ok h ?_ (fun s hs => hs))
    · intro t_1 h _ hw1
      refine Sv.weak hw1 ?_
      refine Sv.region ?_
      refine un (a1 rfl ?_)
      obtain ⟨r_6, hx6, h⟩ := bnd h
      refine un (a1 (v := (S r_6)) (s_cat rfl rfl hx6) ?_)
      refine un (a1 rfl ?_)
      obtain ⟨r_7, hx7, h⟩ := bnd h
      refine un (a1 (v := (S r_7)) (s_cat rfl rfl hx7) ?_)
      refine un (a1 rfl ?_)
      refine dnil ?_
      exact Sv.weak (weak_canon [0] rfl (by decide) (by decide) (fun b h => absurd h (Nat.not_lt_zero _)) (.cons rfl (avAs_free rfl) (.cons rfl (avAs_free rfl) (.cons rfl (.c (.ref rfl (by decide))) .nil))) (.box (by decide) rfl (blkAs_cells (.cons (.same rfl) (.cons (.same rfl) .nil))) .nil)) (clerestoryref2_DimText_j1_ok h)
  · replace h := ifF hc2 h
    refine Sv.skip ?_
    exact Sv.weak (weak_canon [0] rfl (by decide) (by decide) (fun b h => absurd h (Nat.not_lt_zero _)) (.cons rfl (avAs_free rfl) (.cons rfl (avAs_free rfl) (.cons rfl (.c (.ref rfl (by decide))) .nil))) (.box (by decide) rfl (blkAs_cells (.cons (.same rfl) (.cons (.same rfl) .nil))) .nil)) (clerestoryref2_DimText_j1_ok h)
def a3_c0 : ACode := .ret
def a3 : AFunc := ⟨1, [(.tmp 2)], (.seq (.region [⟨(some 1), (.box (.tmp 0)), none⟩, ⟨(some 2), (.mov (.const (.c (.val (.bool false))))), none⟩])
 (.seq (.region [⟨(some 4), (.call 7 []), none⟩, ⟨(some 3), (.mov (.tmp 4)), none⟩])
 (.seq (.drawn (.fin [(⟨(some 5), (.mov (.tmp 3)), none⟩, (0, 0)), (⟨(some 6), (.mov (.tmp 5)), none⟩, (0, 1)), (⟨(some 7), (.load true 2 (.tmp 1)), (some (6, true))⟩, (0, 2)), (⟨(some 9), (.load true 2 (.tmp 1)), (some (6, true))⟩, (0, 4)), (⟨(some 8), (.call 8 [(.tmp 7)]), (some (6, true))⟩, (1, 3)), (⟨(some 10), (.call 9 [(.tmp 9)]), (some (6, true))⟩, (2, 5)), (⟨(some 11), (.bin .eql (.tmp 8) (.tmp 10)), (some (6, true))⟩, (0, 6)), (⟨(some 12), (.pick (.tmp 6) (.tmp 11) (.const (.c (.val (.bool false))))), none⟩, (0, 7)), (⟨(some 2), (.mov (.tmp 12)), none⟩, (0, 8))]))
 a3_c0)))⟩
set_option maxRecDepth 100000 in
theorem c3 : compFunc Tryd.prog 3 = some a3 := by kernel_rfl
def clerestorylaw2_DimTells_post (r : Bool) : AV → Heap → Nat → Prop := fun v h' n' => v = (B r) ∧ (h' = (fun _ => none)) ∧ n' = 0
noncomputable def clerestorylaw2_DimTells_j1 (v2 : Bool) : Option Bool :=
  some v2
theorem clerestorylaw2_DimTells_j1_ok {mL : Int} {v2 : Bool} {o : Bool} (h : clerestorylaw2_DimTells_j1 v2 = some o) :
    Sv Tryd.prog (GG mL) 0 a3_c0 (Ends a3.results 0 (clerestorylaw2_DimTells_post o)) ⟨(upd (fun _ => none) 2 (some (B v2))), (fun _ => none), 0⟩ := by
  unfold clerestorylaw2_DimTells_j1 at h
  refine Sv.ret ?_
  replace h := Option.some.inj h
  subst h
  exact ⟨_, .refl _, _, rfl, ⟨upd (fun _ => none) 0 (some (B v2)), (fun _ => none), 0⟩, (B v2), weak_canon [] rfl List.nodup_nil (Nat.le_refl _) (fun b h => absurd h (Nat.not_lt_zero _)) (.cons rfl (avAs_free rfl) .nil) .nil, rfl, rfl, rfl, rfl⟩
/-- clerestory/clerestorylaw2.DimTells -/
noncomputable def clerestorylaw2_DimTells (d_ : TSDim) : Option Bool :=
  (clerestorylaw2_half).bind fun r_ =>
  if r_ then
    (dim_Text d_).bind fun r_1 =>
    (clerestoryref2_DimText d_).bind fun r_2 =>
    clerestorylaw2_DimTells_j1 (decide (r_1 = r_2))
  else
    clerestorylaw2_DimTells_j1 false
theorem clerestorylaw2_DimTells_ok {mL : Int} {d_ : TSDim} {r : Bool} (h : clerestorylaw2_DimTells d_ = some r) : CPure Tryd.prog (GG mL) 3 [(.agg [cI d_.Num, .str d_.Unit])] (B r) := by
  refine acalls_of_sv hmix c3 (R := clerestorylaw2_DimTells_post r) ?_
  unfold clerestorylaw2_DimTells at h
  refine Sv.seq ?_
  refine Sv.region ?_
  refine un (a2v (v := (.c (.ref 0 2 0 0))) (h' := upd _ 0 (some (.cells 2 [[cI d_.Num, .str d_.Unit]]))) (n' := 1) rfl rfl (fun h => by cases h) ?_)
  refine un (a1 rfl ?_)
  refine dnil ?_
  refine Sv.seq ?_
  refine Sv.region ?_
  obtain ⟨r_, hr1, h⟩ := bnd h
  refine un (ac_pure (clerestorylaw2_half_ok hr1) rfl rfl rfl ?_)
  refine un (a1 rfl ?_)
  refine dnil ?_
  refine Sv.seq ?_
  refine Sv.drawn ?_
  refine un (a1 rfl ?_)
  refine un (a1 rfl ?_)
  refine split2 (fun hc1 => ?_) (fun hc1 => ?_)
  · replace h := ifT hc1 h
    refine gt rfl (a1 (v := (.agg [cI d_.Num, .str d_.Unit])) rfl ?_)
    refine gt rfl (a1 (v := (.agg [cI d_.Num, .str d_.Unit])) rfl ?_)
    obtain ⟨r_1, hr2, h⟩ := bnd h
    refine gt rfl (ac_pure (dim_Text_ok hr2) rfl rfl rfl ?_)
    obtain ⟨r_2, hr3, h⟩ := bnd h
    refine gt rfl (ac_pure (clerestoryref2_DimText_ok hr3) rfl rfl rfl ?_)
    refine gt rfl (a1 (v := (B (decide (r_1 = r_2)))) rfl ?_)
    refine un (a1 (v := (B (decide (r_1 = r_2)))) rfl ?_)
    refine un (a1 rfl ?_)
    refine dnil ?_
    exact Sv.weak (weak_canon [] rfl (by decide) (by decide) (fun b h => absurd h (Nat.not_lt_zero _)) (.cons rfl (avAs_free rfl) .nil) .nil) (clerestorylaw2_DimTells_j1_ok h)
  · replace h := ifF hc1 h
    refine gs rfl rfl ?_
    refine gs rfl rfl ?_
    refine gs rfl rfl ?_
    refine gs rfl rfl ?_
    refine gs rfl rfl ?_
    refine un (a1 (v := (B false)) rfl ?_)
    refine un (a1 rfl ?_)
    refine dnil ?_
    exact Sv.weak (weak_canon [] rfl (by decide) (by decide) (fun b h => absurd h (Nat.not_lt_zero _)) (.cons rfl (avAs_free rfl) .nil) .nil) (clerestorylaw2_DimTells_j1_ok h)
end Go.Proofs.YteldbcjjojjjiaaDoorBv
