/- Printed by a program of mine (bgen.py): plain functions, and the walks that show that the code comes to what they answer. -/
import Derived.Test.YtjicgjhhiallkaaGreatDoorGUrlParses1
namespace Go.Proofs.YtjicgjhhiallkaaGreatDoorBv
open Go
set_option linter.unusedVariables false
set_option linter.unusedSimpArgs false
set_option maxRecDepth 100000
def a33 : AFunc := ⟨2, [(.tmp 4), (.tmp 5)], (.seq (.region [⟨(some 4), (.mov (.const (.c (.str [])))), none⟩, ⟨(some 5), (.mov (.const (.c (.val (.bool false))))), none⟩])
 (.seq (.region [(mV 13 1), ⟨(some 14), (.call 29 [(.tmp 13), (.const (.c (.str [35])))]), none⟩, (mV 12 14), (oP 15 (.ext (.tmp 12) 0)), (oP 16 (.ext (.tmp 12) 1)), (mV 6 15), (mV 7 16)])
 (.seq (.region [(mV 18 6), ⟨(some 19), (.call 29 [(.tmp 18), (.const (.c (.str [63])))]), none⟩, (mV 17 19), (oP 20 (.ext (.tmp 17) 0)), (oP 21 (.ext (.tmp 17) 1)), (mV 8 20), (mV 9 21)])
 (.seq (.region [(mV 22 0), (mV 23 0), (mV 24 9), ⟨(some 25), (.bin .neq (.tmp 24) (.const (.c (.str [])))), none⟩, (mV 26 7), ⟨(some 27), (.bin .neq (.tmp 26) (.const (.c (.str [])))), none⟩, (oP 28 (.nilc (.tmp 22))), (oP 29 (.faddr 5 (.tmp 28))), ⟨none, (.store 1 (.tmp 29) (.tmp 25)), none⟩, (oP 30 (.nilc (.tmp 23))), (oP 31 (.faddr 7 (.tmp 30))), ⟨none, (.store 1 (.tmp 31) (.tmp 27)), none⟩])
 (.seq (.region [⟨(some 10), (.mov (.const (.c (.val (.bool false))))), none⟩, ⟨(some 11), (.mov (.const (.c (.val (.bool false))))), none⟩])
 (.seq (.region [(mV 33 0), (mV 34 9), ⟨(some 35), (.call 23 [(.tmp 34), (.const (.c (.str [63])))]), none⟩, (oP 36 (.call 61 [(.tmp 35)])), (mV 32 36), (oP 37 (.ext (.tmp 32) 0)), (oP 38 (.ext (.tmp 32) 1)), (oP 39 (.nilc (.tmp 33))), (oP 40 (.faddr 4 (.tmp 39))), ⟨none, (.store 1 (.tmp 40) (.tmp 37)), none⟩, (mV 10 38)])
 (.seq (.region [(mV 42 0), (mV 43 7), ⟨(some 44), (.call 23 [(.tmp 43), (.const (.c (.str [35])))]), none⟩, (oP 45 (.call 61 [(.tmp 44)])), (mV 41 45), (oP 46 (.ext (.tmp 41) 0)), (oP 47 (.ext (.tmp 41) 1)), (oP 48 (.nilc (.tmp 42))), (oP 49 (.faddr 6 (.tmp 48))), ⟨none, (.store 1 (.tmp 49) (.tmp 46)), none⟩, (mV 11 47)])
 (.seq (.region [(mV 50 8), (mV 51 10), (mV 52 51), ⟨(some 53), (.mov (.tmp 11)), (some (52, true))⟩, ⟨(some 54), (.pick (.tmp 52) (.tmp 53) (.const (.c (.val (.bool false))))), none⟩, (mV 4 50), (mV 5 54)])
 .ret))))))))⟩
set_option maxRecDepth 100000 in
theorem c33 : compFunc Tryz.prog 33 = some a33 := by kernel_rfl
def r4_TailOf_post (r : ((List UInt8) × Bool × TJUrl)) : AV → Heap → Nat → Prop := fun v h' n' => v = (.tup [(S r.1), (B r.2.1)]) ∧ (h' = (upd (fun _ => none) 0 (some (.cells 8 [[.str r.2.2.Scheme, .str r.2.2.Host, cI r.2.2.Port, .ro false 1 (r.2.2.Path.map eStr), .str r.2.2.Query, cB r.2.2.Asks, .str r.2.2.Fragment, cB r.2.2.Points]])))) ∧ n' = 1
/-- clerestory/clerestoryref4.TailOf -/
noncomputable def r4_TailOf (u_ : TJUrl) (s_ : (List UInt8)) : Option ((List UInt8) × Bool × TJUrl) :=
 (r4_parted s_ [35]).bind fun r_ =>
 (r4_parted r_.1 [63]).bind fun r_1 =>
 (strings_TrimPrefix r_1.2 [63]).bind fun r_2 =>
 (r4_Cleaned r_2).bind fun r_3 =>
 (strings_TrimPrefix r_.2 [35]).bind fun r_4 =>
 (r4_Cleaned r_4).bind fun r_5 =>
 some (r_1.1, (r_3.2 && r_5.2), (⟨u_.Scheme, u_.Host, u_.Port, u_.Path, r_3.1, (!decide (r_1.2 = [])), r_5.1, (!decide (r_.2 = []))⟩ : TJUrl))
theorem r4_TailOf_ok {mL : Int} {u_ : TJUrl} {s_ : (List UInt8)} {r : ((List UInt8) × Bool × TJUrl)} (h : r4_TailOf u_ s_ = some r) : ACalls Tryz.prog (GG mL) 33 [(.c (.ref 0 8 0 0)), (S s_)] (upd (fun _ => none) 0 (some (.cells 8 [[.str u_.Scheme, .str u_.Host, cI u_.Port, .ro false 1 (u_.Path.map eStr), .str u_.Query, cB u_.Asks, .str u_.Fragment, cB u_.Points]]))) 1 (r4_TailOf_post r) := by
 refine acalls_of_sv hmix c33 (R := r4_TailOf_post r) ?_
 unfold r4_TailOf at h
 refine Sv.seq ?_
 refine Sv.region ?_
 refine un (a1 rfl ?_)
 refine un (a1 rfl ?_)
 refine dnil ?_
 refine Sv.seq ?_
 refine Sv.region ?_
 refine un (a1 rfl ?_)
 obtain ⟨r_, hr1, h⟩ := bnd h
 refine un (ac_pure (r4_parted_ok hr1) rfl rfl rfl ?_)
 refine un (a1 rfl ?_)
 refine un (a1 (v := (S r_.1)) rfl ?_)
 refine un (a1 (v := (S r_.2)) rfl ?_)
 refine un (a1 rfl ?_)
 refine un (a1 rfl ?_)
 refine dnil ?_
 refine Sv.seq ?_
 refine Sv.region ?_
 refine un (a1 rfl ?_)
 obtain ⟨r_1, hr2, h⟩ := bnd h
 refine un (ac_pure (r4_parted_ok hr2) rfl rfl rfl ?_)
 refine un (a1 rfl ?_)
 refine un (a1 (v := (S r_1.1)) rfl ?_)
 refine un (a1 (v := (S r_1.2)) rfl ?_)
 refine un (a1 rfl ?_)
 refine un (a1 rfl ?_)
 refine dnil ?_
 refine Sv.seq ?_
 refine Sv.region ?_
 refine un (a1 rfl ?_)
 refine un (a1 rfl ?_)
 refine un (a1 rfl ?_)
 refine un (a1 (v := (B (!decide (r_1.2 = [])))) rfl ?_)
 refine un (a1 rfl ?_)
 refine un (a1 (v := (B (!decide (r_.2 = [])))) rfl ?_)
 refine un (a1 (v := (.c (.ref 0 8 0 0))) rfl ?_)
 refine un (a1 (v := (.c (.ref 0 8 0 5))) rfl ?_)
 refine un (a2n (h' := upd _ 0 (some (.cells 8 [[.str u_.Scheme, .str u_.Host, cI u_.Port, .ro false 1 (u_.Path.map eStr), .str u_.Query, cB (!decide (r_1.2 = [])), .str u_.Fragment, cB u_.Points]]))) (n' := 1) rfl rfl (fun h => by cases h) ?_)
 refine un (a1 (v := (.c (.ref 0 8 0 0))) rfl ?_)
 refine un (a1 (v := (.c (.ref 0 8 0 7))) rfl ?_)
 refine un (a2n (h' := upd _ 0 (some (.cells 8 [[.str u_.Scheme, .str u_.Host, cI u_.Port, .ro false 1 (u_.Path.map eStr), .str u_.Query, cB (!decide (r_1.2 = [])), .str u_.Fragment, cB (!decide (r_.2 = []))]]))) (n' := 1) rfl rfl (fun h => by cases h) ?_)
 refine dnil ?_
 refine Sv.seq ?_
 refine Sv.region ?_
 refine un (a1 rfl ?_)
 refine un (a1 rfl ?_)
 refine dnil ?_
 refine Sv.seq ?_
 refine Sv.region ?_
 refine un (a1 rfl ?_)
 refine un (a1 rfl ?_)
 obtain ⟨r_2, hr3, h⟩ := bnd h
 refine un (ac_pure (strings_TrimPrefix_ok hr3) rfl rfl rfl ?_)
 obtain ⟨r_3, hr4, h⟩ := bnd h
 refine un (ac_pure (r4_Cleaned_ok hr4) rfl rfl rfl ?_)
 refine un (a1 rfl ?_)
 refine un (a1 (v := (S r_3.1)) rfl ?_)
 refine un (a1 (v := (B r_3.2)) rfl ?_)
 refine un (a1 (v := (.c (.ref 0 8 0 0))) rfl ?_)
 refine un (a1 (v := (.c (.ref 0 8 0 4))) rfl ?_)
 refine un (a2n (h' := upd _ 0 (some (.cells 8 [[.str u_.Scheme, .str u_.Host, cI u_.Port, .ro false 1 (u_.Path.map eStr), .str r_3.1, cB (!decide (r_1.2 = [])), .str u_.Fragment, cB (!decide (r_.2 = []))]]))) (n' := 1) rfl rfl (fun h => by cases h) ?_)
 refine un (a1 rfl ?_)
 refine dnil ?_
 refine Sv.seq ?_
 refine Sv.region ?_
 refine un (a1 rfl ?_)
 refine un (a1 rfl ?_)
 obtain ⟨r_4, hr5, h⟩ := bnd h
 refine un (ac_pure (strings_TrimPrefix_ok hr5) rfl rfl rfl ?_)
 obtain ⟨r_5, hr6, h⟩ := bnd h
 refine un (ac_pure (r4_Cleaned_ok hr6) rfl rfl rfl ?_)
 refine un (a1 rfl ?_)
 refine un (a1 (v := (S r_5.1)) rfl ?_)
 refine un (a1 (v := (B r_5.2)) rfl ?_)
 refine un (a1 (v := (.c (.ref 0 8 0 0))) rfl ?_)
 refine un (a1 (v := (.c (.ref 0 8 0 6))) rfl ?_)
 refine un (a2n (h' := upd _ 0 (some (.cells 8 [[.str u_.Scheme, .str u_.Host, cI u_.Port, .ro false 1 (u_.Path.map eStr), .str r_3.1, cB (!decide (r_1.2 = [])), .str r_5.1, cB (!decide (r_.2 = []))]]))) (n' := 1) rfl rfl (fun h => by cases h) ?_)
 refine un (a1 rfl ?_)
 refine dnil ?_
 refine Sv.seq ?_
 refine Sv.region ?_
 refine un (a1 rfl ?_)
 refine un (a1 rfl ?_)
 refine un (a1 rfl ?_)
 refine gjoin 2 (d := 54) (v := (B (r_3.2 && r_5.2))) (fun X hX => ?_) ?_
 ·refine split2 (fun hc1 => ?_) (fun hc1 => ?_)
  ·refine gt rfl (a1 rfl ?_)
   refine un (a1 (v := (B r_5.2)) rfl ?_)
   refine dnil ?_
   exact hX _ (.putEq (by rw [hc1]; rfl) (.skip _ _ (.putEq (by rw [hc1]) (.refl _)) rfl))
  ·refine gs rfl rfl ?_
   refine un (a1 (v := (B false)) rfl ?_)
   refine dnil ?_
   exact hX _ (.putEq (by rw [hc1]; rfl) (.skip _ _ (.putEq (by rw [hc1]) (.refl _)) rfl))
 refine un (a1 rfl ?_)
 refine un (a1 rfl ?_)
 refine dnil ?_
 refine Sv.ret ?_
 replace h := Option.some.inj h
 subst h
 exact ⟨_, .refl _, _, rfl, ⟨upd (fun _ => none) 0 (some (.tup [(S r_1.1), (B (r_3.2 && r_5.2))])), (upd (fun _ => none) 0 (some (.cells 8 [[.str u_.Scheme, .str u_.Host, cI u_.Port, .ro false 1 (u_.Path.map eStr), .str r_3.1, cB (!decide (r_1.2 = [])), .str r_5.1, cB (!decide (r_.2 = []))]]))), 1⟩, (.tup [(S r_1.1), (B (r_3.2 && r_5.2))]), weak_canon2 [0] [0] (by decide) (by decide) (by decide) (.cons (by decide) .nil) (.cons rfl (avAs_tup (.cons (avAs_free rfl) (.cons (avAs_free rfl) .nil))) .nil) (.box (by decide) rfl (blkAs_cells (.cons (.same rfl) (.cons (.same rfl) (.cons (.same rfl) (.cons (.same rfl) (.cons (.same rfl) (.cons (.same rfl) (.cons (.same rfl) (.cons (.same rfl) .nil))))))))) .nil), rfl, rfl, rfl, rfl⟩
def r4_TailOf1_post (r : ((List UInt8) × Bool × TJUrl)) : AV → Heap → Nat → Prop := fun v h' n' => ∃ z0 : Bool, (z0 = true → r.2.2.Path = []) ∧ v = (.tup [(S r.1), (B r.2.1)]) ∧ (h' = (upd (upd (fun _ => none) 0 (some (.cells 8 [[.str r.2.2.Scheme, .str r.2.2.Host, cI r.2.2.Port, lstC z0 2 1 r.2.2.Path.length, .str r.2.2.Query, cB r.2.2.Asks, .str r.2.2.Fragment, cB r.2.2.Points]]))) 2 (lstB z0 1 (r.2.2.Path.map eStr)))) ∧ n' = 3
/-- clerestory/clerestoryref4.TailOf -/
noncomputable def r4_TailOf1 (u_ : TJUrl) (s_ : (List UInt8)) : Option ((List UInt8) × Bool × TJUrl) :=
 (r4_parted s_ [35]).bind fun r_ =>
 (r4_parted r_.1 [63]).bind fun r_1 =>
 (strings_TrimPrefix r_1.2 [63]).bind fun r_2 =>
 (r4_Cleaned r_2).bind fun r_3 =>
 (strings_TrimPrefix r_.2 [35]).bind fun r_4 =>
 (r4_Cleaned r_4).bind fun r_5 =>
 some (r_1.1, (r_3.2 && r_5.2), (⟨u_.Scheme, u_.Host, u_.Port, u_.Path, r_3.1, (!decide (r_1.2 = [])), r_5.1, (!decide (r_.2 = []))⟩ : TJUrl))
theorem r4_TailOf1_ok {mL : Int} {u_ : TJUrl} {s_ : (List UInt8)} {zu : Bool} (hzu : zu = true → u_.Path = []) {r : ((List UInt8) × Bool × TJUrl)} (h : r4_TailOf1 u_ s_ = some r) : ACalls Tryz.prog (GG mL) 33 [(.c (.ref 0 8 0 0)), (S s_)] (upd (upd (fun _ => none) 0 (some (.cells 8 [[.str u_.Scheme, .str u_.Host, cI u_.Port, lstC zu 1 1 u_.Path.length, .str u_.Query, cB u_.Asks, .str u_.Fragment, cB u_.Points]]))) 1 (lstB zu 1 (u_.Path.map eStr))) 2 (r4_TailOf1_post r) := by
 refine acalls_of_sv hmix c33 (R := r4_TailOf1_post r) ?_
 unfold r4_TailOf1 at h
 refine Sv.seq ?_
 refine Sv.region ?_
 refine un (a1 rfl ?_)
 refine un (a1 rfl ?_)
 refine dnil ?_
 refine Sv.seq ?_
 refine Sv.region ?_
 refine un (a1 rfl ?_)
 obtain ⟨r_, hr1, h⟩ := bnd h
 refine un (ac_pure (r4_parted_ok hr1) rfl rfl rfl ?_)
 refine un (a1 rfl ?_)
 refine un (a1 (v := (S r_.1)) rfl ?_)
 refine un (a1 (v := (S r_.2)) rfl ?_)
 refine un (a1 rfl ?_)
 refine un (a1 rfl ?_)
 refine dnil ?_
 refine Sv.seq ?_
 refine Sv.region ?_
 refine un (a1 rfl ?_)
 obtain ⟨r_1, hr2, h⟩ := bnd h
 refine un (ac_pure (r4_parted_ok hr2) rfl rfl rfl ?_)
 refine un (a1 rfl ?_)
 refine un (a1 (v := (S r_1.1)) rfl ?_)
 refine un (a1 (v := (S r_1.2)) rfl ?_)
 refine un (a1 rfl ?_)
 refine un (a1 rfl ?_)
 refine dnil ?_
 refine Sv.seq ?_
 refine Sv.region ?_
 refine un (a1 rfl ?_)
 refine un (a1 rfl ?_)
 refine un (a1 rfl ?_)
 refine un (a1 (v := (B (!decide (r_1.2 = [])))) rfl ?_)
 refine un (a1 rfl ?_)
 refine un (a1 (v := (B (!decide (r_.2 = [])))) rfl ?_)
 refine un (a1 (v := (.c (.ref 0 8 0 0))) rfl ?_)
 refine un (a1 (v := (.c (.ref 0 8 0 5))) rfl ?_)
 refine un (a2n (h' := upd _ 0 (some (.cells 8 [[.str u_.Scheme, .str u_.Host, cI u_.Port, lstC zu 1 1 u_.Path.length, .str u_.Query, cB (!decide (r_1.2 = [])), .str u_.Fragment, cB u_.Points]]))) (n' := 2) rfl rfl (fun h => by cases h) ?_)
 refine un (a1 (v := (.c (.ref 0 8 0 0))) rfl ?_)
 refine un (a1 (v := (.c (.ref 0 8 0 7))) rfl ?_)
 refine un (a2n (h' := upd _ 0 (some (.cells 8 [[.str u_.Scheme, .str u_.Host, cI u_.Port, lstC zu 1 1 u_.Path.length, .str u_.Query, cB (!decide (r_1.2 = [])), .str u_.Fragment, cB (!decide (r_.2 = []))]]))) (n' := 2) rfl rfl (fun h => by cases h) ?_)
 refine dnil ?_
 refine Sv.seq ?_
 refine Sv.region ?_
 refine un (a1 rfl ?_)
 refine un (a1 rfl ?_)
 refine dnil ?_
 refine Sv.seq ?_
 refine Sv.region ?_
 refine un (a1 rfl ?_)
 refine un (a1 rfl ?_)
 obtain ⟨r_2, hr3, h⟩ := bnd h
 refine un (ac_pure (strings_TrimPrefix_ok hr3) rfl rfl rfl ?_)
 obtain ⟨r_3, hr4, h⟩ := bnd h
 refine un (ac_pure (r4_Cleaned_ok hr4) rfl rfl rfl ?_)
 refine un (a1 rfl ?_)
 refine un (a1 (v := (S r_3.1)) rfl ?_)
 refine un (a1 (v := (B r_3.2)) rfl ?_)
 refine un (a1 (v := (.c (.ref 0 8 0 0))) rfl ?_)
 refine un (a1 (v := (.c (.ref 0 8 0 4))) rfl ?_)
 refine un (a2n (h' := upd _ 0 (some (.cells 8 [[.str u_.Scheme, .str u_.Host, cI u_.Port, lstC zu 1 1 u_.Path.length, .str r_3.1, cB (!decide (r_1.2 = [])), .str u_.Fragment, cB (!decide (r_.2 = []))]]))) (n' := 2) rfl rfl (fun h => by cases h) ?_)
 refine un (a1 rfl ?_)
 refine dnil ?_
 refine Sv.seq ?_
 refine Sv.region ?_
 refine un (a1 rfl ?_)
 refine un (a1 rfl ?_)
 obtain ⟨r_4, hr5, h⟩ := bnd h
 refine un (ac_pure (strings_TrimPrefix_ok hr5) rfl rfl rfl ?_)
 obtain ⟨r_5, hr6, h⟩ := bnd h
 refine un (ac_pure (r4_Cleaned_ok hr6) rfl rfl rfl ?_)
 refine un (a1 rfl ?_)
 refine un (a1 (v := (S r_5.1)) rfl ?_)
 refine un (a1 (v := (B r_5.2)) rfl ?_)
 refine un (a1 (v := (.c (.ref 0 8 0 0))) rfl ?_)
 refine un (a1 (v := (.c (.ref 0 8 0 6))) rfl ?_)
 refine un (a2n (h' := upd _ 0 (some (.cells 8 [[.str u_.Scheme, .str u_.Host, cI u_.Port, lstC zu 1 1 u_.Path.length, .str r_3.1, cB (!decide (r_1.2 = [])), .str r_5.1, cB (!decide (r_.2 = []))]]))) (n' := 2) rfl rfl (fun h => by cases h) ?_)
 refine un (a1 rfl ?_)
 refine dnil ?_
 refine Sv.seq ?_
 refine Sv.region ?_
 refine un (a1 rfl ?_)
 refine un (a1 rfl ?_)
 refine un (a1 rfl ?_)
 refine gjoin 2 (d := 54) (v := (B (r_3.2 && r_5.2))) (fun X hX => ?_) ?_
 ·refine split2 (fun hc1 => ?_) (fun hc1 => ?_)
  ·refine gt rfl (a1 rfl ?_)
   refine un (a1 (v := (B r_5.2)) rfl ?_)
   refine dnil ?_
   exact hX _ (.putEq (by rw [hc1]; rfl) (.skip _ _ (.putEq (by rw [hc1]) (.refl _)) rfl))
  ·refine gs rfl rfl ?_
   refine un (a1 (v := (B false)) rfl ?_)
   refine dnil ?_
   exact hX _ (.putEq (by rw [hc1]; rfl) (.skip _ _ (.putEq (by rw [hc1]) (.refl _)) rfl))
 refine un (a1 rfl ?_)
 refine un (a1 rfl ?_)
 refine dnil ?_
 refine Sv.ret ?_
 replace h := Option.some.inj h
 subst h
 exact ⟨_, .refl _, _, rfl, ⟨upd (fun _ => none) 0 (some (.tup [(S r_1.1), (B (r_3.2 && r_5.2))])), (upd (upd (fun _ => none) 0 (some (.cells 8 [[.str u_.Scheme, .str u_.Host, cI u_.Port, lstC zu 2 1 u_.Path.length, .str r_3.1, cB (!decide (r_1.2 = [])), .str r_5.1, cB (!decide (r_.2 = []))]]))) 2 (lstB zu 1 (u_.Path.map eStr))), 3⟩, (.tup [(S r_1.1), (B (r_3.2 && r_5.2))]), weak_canon2 [0, 1, 1] [0, 2] (by decide) (by decide) (by decide) (.cons (by decide) (.cons (by decide) .nil)) (.cons rfl (avAs_tup (.cons (avAs_free rfl) (.cons (avAs_free rfl) .nil))) .nil) (.row (by decide) rfl (fr_map fun _ => rfl) (.box (by decide) rfl (blkAs_cells (.cons (.same rfl) (.cons (.same rfl) (.cons (.same rfl) (.cons (lstC_ren rfl (by decide)) (.cons (.same rfl) (.cons (.same rfl) (.cons (.same rfl) (.cons (.same rfl) .nil))))))))) .nil)), rfl, zu, hzu, rfl, rfl, rfl⟩
def a62_c0 : ACode := (.seq (.region [(oP 17 (.bin .lss (.tmp 16) (.tmp 15)))])
 (.seq (.cond (.tmp 17) .skip (.exit 0))
 (.seq (.block 1 (.seq (.region [(oP 18 (.iaddr 2 (.tmp 14) (.tmp 16))), (oP 19 (.load true 2 (.tmp 18))), ⟨(some 8), (.box (.const (.agg [(.val (.int .u8 0)), (.val (.bool false))]))), none⟩, ⟨none, (.store 2 (.tmp 8) (.tmp 19)), none⟩])
 (.region [(mV 20 6), (oP 21 (.faddr 0 (.tmp 8))), (oP 22 (.load false 1 (.tmp 21))), (oP 23 (.bslice 1 [(.val (.int .u8 0))] 1 [(0, (.tmp 22))])), (oP 24 (.app 1 1 (.tmp 20) (.tmp 23))), (mV 6 24)])))
 (.region [⟨(some 25), (.bin .add (.tmp 16) (kI 1)), none⟩, (mV 16 25)]))))
def a62 : AFunc := ⟨1, [(.tmp 2), (.tmp 3)], (.seq (.region [⟨(some 2), (.mov (.const (.c (.str [])))), none⟩, ⟨(some 3), (.mov (.const (.c (.val (.bool false))))), none⟩])
 (.seq (.region [(mV 10 0), (oP 11 (.call 91 [(.tmp 10)])), (mV 9 11), (oP 12 (.ext (.tmp 9) 0)), (oP 13 (.ext (.tmp 9) 1)), (mV 4 12), (mV 5 13)])
 (.seq (.region [⟨(some 6), (.mov (.const (.c (.ro true 1 [])))), none⟩])
 (.seq (.seq (.region [(mV 14 4), (oP 15 (.len (.tmp 14))), ⟨(some 16), (.mov (kI 0)), none⟩])
 (.block 0 (.loop a62_c0)))
 (.seq (.region [(mV 26 6), (oP 27 (.ofBytes (.tmp 26))), (mV 28 5), (mV 2 27), (mV 3 28)])
 .ret)))))⟩
set_option maxRecDepth 100000 in
theorem c62 : compFunc Tryz.prog 62 = some a62 := by kernel_rfl
def r4_Decoded_post (r : ((List UInt8) × Bool)) : AV → Heap → Nat → Prop := fun v h' n' => v = (.tup [(S r.1), (B r.2)]) ∧ (h' = (fun _ => none)) ∧ n' = 0
noncomputable def r4_Decoded_l0 (r_ : ((List Tunit) × Bool)) (K0_ : (List Int) → Option ((List UInt8) × Bool)) : Nat → (List Int) → (List Tunit) → Int → Option ((List UInt8) × Bool)
 | 0, _, _, _ => none
 | k + 1, out, v14, v16 =>
  if decide (v16 < (r_.1.length : Int)) then
   (at? v14 v16).bind fun x_ =>
   (app? 1 out [x_.f_c]).bind fun r_1 =>
   (r4_Decoded_l0 r_ K0_ k) r_1 v14 (wi (v16 + 1))
  else
   K0_ out
theorem r4_Decoded_l0_ok {mL : Int} {Q : AExit → St → Prop} {r_ : ((List Tunit) × Bool)} {K0_ : (List Int) → Option ((List UInt8) × Bool)} {k : Nat} {out : (List Int)} {v14 : (List Tunit)} {v16 : Int} {zout : Bool} (hzout : zout = true → out = []) {zv14 : Bool} (hzv14 : zv14 = true → v14 = []) {o : ((List UInt8) × Bool)} (h : r4_Decoded_l0 r_ K0_ k out v14 v16 = some o)
  (hK0 : ∀ (out1 : (List Int)) (zout1 : Bool) (_ : zout1 = true → out1 = []), K0_ out1 = some o → ∀ s, Weak 0 s ⟨(upd (upd (fun _ => none) 5 (some (B r_.2))) 6 (some (lstV zout1 0 1 out1.length))), (upd (fun _ => none) 0 (lstB zout1 1 (out1.map (eK .u8)))), 1⟩ → Q (.exit 0) s)
  (hr : ∀ s, Ends a62.results 0 (r4_Decoded_post o) .ret s → Q .ret s) :
  Sv Tryz.prog (GG mL) 0 (.loop a62_c0) Q ⟨(upd (upd (upd (upd (upd (fun _ => none) 5 (some (B r_.2))) 6 (some (lstV zout 0 1 out.length))) 14 (some (lstV zv14 1 2 v14.length))) 15 (some (I (r_.1.length : Int)))) 16 (some (I v16))), (upd (upd (fun _ => none) 0 (lstB zout 1 (out.map (eK .u8)))) 1 (lstB zv14 2 (v14.map e_Tunit))), 2⟩ := by
 refine Sv.loop (I := fun k s => ∃ (out : (List Int)), ∃ (v14 : (List Tunit)), ∃ (v16 : Int), ∃ (zout : Bool), (zout = true → out = []) ∧ ∃ (zv14 : Bool), (zv14 = true → v14 = []) ∧ r4_Decoded_l0 r_ K0_ k out v14 v16 = some o ∧ s = ⟨(upd (upd (upd (upd (upd (fun _ => none) 5 (some (B r_.2))) 6 (some (lstV zout 0 1 out.length))) 14 (some (lstV zv14 1 2 v14.length))) 15 (some (I (r_.1.length : Int)))) 16 (some (I v16))), (upd (upd (fun _ => none) 0 (lstB zout 1 (out.map (eK .u8)))) 1 (lstB zv14 2 (v14.map e_Tunit))), 2⟩) (fun k s hI => ?_) ⟨out, v14, v16, zout, hzout, zv14, hzv14, h, rfl⟩
 clear h
 clear hzv14 hzout zv14 zout v16 v14 out
 obtain ⟨out, v14, v16, zout, hzout, zv14, hzv14, h, rfl⟩ := hI
 cases k with
 | zero => cases h
 | succ k =>
 rw [r4_Decoded_l0] at h
 have hself : ∀ (out : (List Int)) (v14 : (List Tunit)) (v16 : Int) (zout : Bool) (_ : zout = true → out = []) (zv14 : Bool) (_ : zv14 = true → v14 = []), (r4_Decoded_l0 r_ K0_ k) out v14 v16 = some o → ∀ s, Weak 0 s ⟨(upd (upd (upd (upd (upd (fun _ => none) 5 (some (B r_.2))) 6 (some (lstV zout 0 1 out.length))) 14 (some (lstV zv14 1 2 v14.length))) 15 (some (I (r_.1.length : Int)))) 16 (some (I v16))), (upd (upd (fun _ => none) 0 (lstB zout 1 (out.map (eK .u8)))) 1 (lstB zv14 2 (v14.map e_Tunit))), 2⟩ → (AThen (fun s' => ∃ s'' k', Weak 0 s' s'' ∧ k' < k + 1 ∧ (fun k s => ∃ (out : (List Int)), ∃ (v14 : (List Tunit)), ∃ (v16 : Int), ∃ (zout : Bool), (zout = true → out = []) ∧ ∃ (zv14 : Bool), (zv14 = true → v14 = []) ∧ r4_Decoded_l0 r_ K0_ k out v14 v16 = some o ∧ s = ⟨(upd (upd (upd (upd (upd (fun _ => none) 5 (some (B r_.2))) 6 (some (lstV zout 0 1 out.length))) 14 (some (lstV zv14 1 2 v14.length))) 15 (some (I (r_.1.length : Int)))) 16 (some (I v16))), (upd (upd (fun _ => none) 0 (lstB zout 1 (out.map (eK .u8)))) 1 (lstB zv14 2 (v14.map e_Tunit))), 2⟩) k' s'') Q) .normal s := fun out v14 v16 zout hzout zv14 hzv14 h s hw => ⟨_, k, hw, Nat.lt_succ_self k, out, v14, v16, zout, hzout, zv14, hzv14, h, rfl⟩
 refine Sv.seq ?_
 refine Sv.region ?_
 refine un (a1 (v := (B (decide (v16 < (r_.1.length : Int))))) rfl ?_)
 refine dnil ?_
 refine Sv.seq ?_
 refine Sv.cond (b := decide (v16 < (r_.1.length : Int))) rfl (fun hc1 => ?_) (fun hc1 => ?_)
 ·replace h := ifT hc1 h
  refine Sv.skip ?_
  refine Sv.seq ?_
  refine Sv.block ?_
  refine Sv.seq ?_
  refine Sv.region ?_
  obtain ⟨x_, hx1, h⟩ := bnd h
  refine un (a1 (v := (.c (.ref 1 2 v16.toNat 0))) (s_iaddrL rfl rfl hzv14 hx1) ?_)
  refine un (a1 (v := (.agg [.val (.int .u8 x_.f_c), cB x_.f_triple])) (s_loadL (z := zv14) (e := e_Tunit) rfl rfl hzv14 hx1 rfl rfl) ?_)
  refine un (a2v (v := (.c (.ref 2 2 0 0))) (h' := upd _ 2 (some (.cells 2 [[.val (.int .u8 0), cB false]]))) (n' := 3) rfl rfl (fun h => by cases h) ?_)
  refine un (a2n (h' := upd _ 2 (some (.cells 2 [[.val (.int .u8 x_.f_c), cB x_.f_triple]]))) (n' := 3) rfl rfl (fun h => by cases h) ?_)
  refine dnil ?_
  refine Sv.region ?_
  refine un (a1 rfl ?_)
  refine un (a1 (v := (.c (.ref 2 2 0 0))) rfl ?_)
  refine un (a1 (v := (.c (.val (.int .u8 x_.f_c)))) rfl ?_)
  refine un (a2v (v := (lstV false 3 1 [x_.f_c].length)) (h' := upd _ 3 (lstB false 1 ([x_.f_c].map (eK .u8)))) (n' := 4) rfl rfl (fun h => by cases h) ?_)
  obtain ⟨r_1, hr2, h⟩ := bnd h
  have hz1 : (zout && [x_.f_c].isEmpty) = true → r_1 = [] := app_nil (z := zout) (ys := [x_.f_c]) hzout hr2
  refine un (a2v rfl (s_app (xs := out) (ys := [x_.f_c]) (e := (eK .u8)) (z := zout) (b := 0) rfl rfl hzout rfl rfl (slc_lst rfl (List.length_map _).symm (map_nil_of (fun h => by cases h))) hr2) (fun h => by cases h) ?_)
  refine un (a1 rfl ?_)
  refine dnil ?_
  refine Sv.region ?_
  refine un (a1 (v := (I (wi (v16 + 1)))) rfl ?_)
  refine un (a1 rfl ?_)
  refine dnil ?_
  exact hself r_1 v14 (wi (v16 + 1)) (zout && [x_.f_c].isEmpty) hz1 zv14 hzv14 h _ (weak_canon [4, 1] rfl (by decide) (by decide) nlz (.cons rfl (avAs_free rfl) (.cons rfl (avAs_free rfl) (.cons rfl (.c (lstC_ren rfl (by decide))) (.cons rfl (.c (lstC_ren rfl (by decide))) (.cons rfl (avAs_free rfl) .nil))))) (.row (by decide) rfl (fr_map fun _ => rfl) (.row (by decide) rfl (fr_map fun _ => rfl) .nil)))
 ·replace h := ifF hc1 h
  refine Sv.exit ?_
  exact hK0 out zout hzout h _ (weak_canon [0] rfl (by decide) (by decide) nlz (.cons rfl (.c (lstC_ren rfl (by decide))) (.cons rfl (avAs_free rfl) .nil)) (.row (by decide) rfl (fr_map fun _ => rfl) .nil))
/-- clerestory/clerestoryref4.Decoded -/
noncomputable def r4_Decoded (s_ : (List UInt8)) : Option ((List UInt8) × Bool) :=
 (r4_units s_).bind fun r_ =>
 lim fun kk => r4_Decoded_l0 r_ (fun (out1 : (List Int)) => 
   some ((byts out1), r_.2)) kk ([] : List Int) r_.1 0
theorem r4_Decoded_ok {mL : Int} {s_ : (List UInt8)} {r : ((List UInt8) × Bool)} (h : r4_Decoded s_ = some r) : CPure Tryz.prog (GG mL) 62 [(S s_)] (.tup [(S r.1), (B r.2)]) := by
 refine acalls_of_sv hmix c62 (R := r4_Decoded_post r) ?_
 unfold r4_Decoded at h
 refine Sv.seq ?_
 refine Sv.region ?_
 refine un (a1 rfl ?_)
 refine un (a1 rfl ?_)
 refine dnil ?_
 refine Sv.seq ?_
 refine Sv.region ?_
 refine un (a1 rfl ?_)
 obtain ⟨r_, hr1, h⟩ := bnd h
 refine un (ac_gen (bs := []) («as» := [(S s_)]) (h2 := _) (h1 := (fun _ => none)) (r4_units_ok hr1) rfl (.cons (avAs_free rfl) .nil) (hsub_refl _) (.nil _) (fun _ => rfl) (by decide) (by decide) (.cons (avAs_free rfl) .nil) .nil ?_)
 rintro _ _ _ hn ⟨z_, hz_, rfl, rfl, rfl⟩
 refine ⟨.inl rfl, (upd (rem [] _) 0 (lstB z_ 2 (r_.1.map e_Tunit))), fun hbd => (m3_cons (m3_row rfl (fr_map fun _ => rfl)) (m3_rem (in_nil _) (.cons (by decide) .nil) hbd)), (.tup [(lstV z_ 0 2 r_.1.length), (B r_.2)]), 1, (by cases z_ <;> rfl), rfl, ?_⟩
 refine un (a1 rfl ?_)
 refine un (a1 (v := (lstV z_ 0 2 r_.1.length)) rfl ?_)
 refine un (a1 (v := (B r_.2)) rfl ?_)
 refine un (a1 rfl ?_)
 refine un (a1 rfl ?_)
 refine dnil ?_
 refine Sv.seq ?_
 refine Sv.region ?_
 refine un (a1 rfl ?_)
 refine dnil ?_
 refine Sv.seq ?_
 refine Sv.seq ?_
 refine Sv.region ?_
 refine un (a1 rfl ?_)
 refine un (a1 (v := (I (r_.1.length : Int))) (s_lenL rfl (len_nil_of hz_)) ?_)
 refine un (a1 rfl ?_)
 refine dnil ?_
 refine Sv.block ?_
 obtain ⟨kk, h⟩ := lim_some h
 refine Sv.weak (weak_canon [1000, 0] rfl (by decide) (by decide) nlz (.cons rfl (avAs_free rfl) (.cons rfl (avAs_free rfl) (.cons rfl (.c (lstC_ren rfl (by decide))) (.cons rfl (.c (.same rfl)) (.cons rfl (avAs_free rfl) .nil))))) (.row (by decide) rfl (fr_map fun _ => rfl) (.non (by decide) .nil))) (r4_Decoded_l0_ok (fun _ => rfl) hz_ h ?_ (fun s hs => hs))
 ·intro out1 zout1 hzout1 h _ hw1
  refine Sv.weak hw1 ?_
  refine Sv.seq ?_
  refine Sv.region ?_
  refine un (a1 rfl ?_)
  refine un (a1 (v := (S (byts out1))) (s_ofBytes (xs := out1) rfl (slc_lst rfl (List.length_map _).symm (map_nil_of hzout1))) ?_)
  refine un (a1 rfl ?_)
  refine un (a1 rfl ?_)
  refine un (a1 rfl ?_)
  refine dnil ?_
  refine Sv.ret ?_
  replace h := Option.some.inj h
  subst h
  exact ⟨_, .refl _, _, rfl, ⟨upd (fun _ => none) 0 (some (.tup [(S (byts out1)), (B r_.2)])), (fun _ => none), 0⟩, (.tup [(S (byts out1)), (B r_.2)]), weak_canon [] rfl List.nodup_nil (Nat.le_refl _) nlz (.cons rfl (avAs_tup (.cons (avAs_free rfl) (.cons (avAs_free rfl) .nil))) .nil) .nil, rfl, rfl, rfl, rfl⟩
def a34_c0 : ACode := (.seq (.region [(oP 14 (.bin .lss (.tmp 13) (.tmp 12)))])
 (.seq (.cond (.tmp 14) .skip (.exit 0))
 (.seq (.block 1 (.seq (.region [(oP 15 (.iaddr 1 (.tmp 11) (.tmp 13))), (oP 16 (.load false 1 (.tmp 15))), (mV 7 16)])
 (.seq (.region [(mV 18 7), (oP 19 (.call 62 [(.tmp 18)])), (mV 17 19), (oP 20 (.ext (.tmp 17) 0)), (oP 21 (.ext (.tmp 17) 1)), (mV 8 20), (mV 9 21)])
 (.region [(mV 22 5), (mV 23 8), (oP 24 (.bslice 1 [(.str [])] 1 [(0, (.tmp 23))])), (oP 25 (.app 1 16 (.tmp 22) (.tmp 24))), (mV 26 4), (mV 27 26), ⟨(some 28), (.mov (.tmp 9)), (some (27, true))⟩, ⟨(some 29), (.pick (.tmp 27) (.tmp 28) (.const (.c (.val (.bool false))))), none⟩, (mV 5 25), (mV 4 29)]))))
 (.region [⟨(some 30), (.bin .add (.tmp 13) (kI 1)), none⟩, (mV 13 30)]))))
def a34 : AFunc := ⟨1, [(.tmp 2), (.tmp 3)], (.seq (.region [⟨(some 2), (.mov (.const (.c (.ro true 1 [])))), none⟩, ⟨(some 3), (.mov (.const (.c (.val (.bool false))))), none⟩])
 (.seq (.region [⟨(some 4), (.mov (.const (.c (.val (.bool true))))), none⟩])
 (.seq (.region [⟨(some 5), (.mov (.const (.c (.ro true 1 [])))), none⟩])
 (.seq (.seq (.region [(mV 10 0), ⟨(some 11), (.call 55 [(.tmp 10), (.const (.c (.str [47])))]), none⟩, (oP 12 (.len (.tmp 11))), ⟨(some 13), (.mov (kI 0)), none⟩])
 (.block 0 (.loop a34_c0)))
 (.seq (.region [(mV 31 5), (mV 32 4), (mV 2 31), (mV 3 32)])
 .ret)))))⟩
set_option maxRecDepth 100000 in
theorem c34 : compFunc Tryz.prog 34 = some a34 := by kernel_rfl
def r4_segmentsOf_post (r : ((List (List UInt8)) × Bool)) : AV → Heap → Nat → Prop := fun v h' n' => ∃ z0 : Bool, (z0 = true → r.1 = []) ∧ v = (.tup [(lstV z0 0 1 r.1.length), (B r.2)]) ∧ (h' = (upd (fun _ => none) 0 (lstB z0 1 (r.1.map eStr)))) ∧ n' = 1
noncomputable def r4_segmentsOf_l0 (r_ : (List (List UInt8))) (K0_ : Bool → (List (List UInt8)) → Option ((List (List UInt8)) × Bool)) : Nat → Bool → (List (List UInt8)) → (List (List UInt8)) → Int → Option ((List (List UInt8)) × Bool)
 | 0, _, _, _, _ => none
 | k + 1, all_, out, v11, v13 =>
  if decide (v13 < (r_.length : Int)) then
   (at? v11 v13).bind fun x_ =>
   (r4_Decoded x_).bind fun r_1 =>
   (app? 16 out [r_1.1]).bind fun r_2 =>
   (r4_segmentsOf_l0 r_ K0_ k) (all_ && r_1.2) r_2 v11 (wi (v13 + 1))
  else
   K0_ all_ out
theorem r4_segmentsOf_l0_ok {mL : Int} {Q : AExit → St → Prop} {r_ : (List (List UInt8))} {K0_ : Bool → (List (List UInt8)) → Option ((List (List UInt8)) × Bool)} {k : Nat} {all_ : Bool} {out : (List (List UInt8))} {v11 : (List (List UInt8))} {v13 : Int} {zout : Bool} (hzout : zout = true → out = []) {zv11 : Bool} (hzv11 : zv11 = true → v11 = []) {o : ((List (List UInt8)) × Bool)} (h : r4_segmentsOf_l0 r_ K0_ k all_ out v11 v13 = some o)
  (hK0 : ∀ (all_1 : Bool) (out1 : (List (List UInt8))) (zout1 : Bool) (_ : zout1 = true → out1 = []), K0_ all_1 out1 = some o → ∀ s, Weak 0 s ⟨(upd (upd (fun _ => none) 4 (some (B all_1))) 5 (some (lstV zout1 0 1 out1.length))), (upd (fun _ => none) 0 (lstB zout1 1 (out1.map eStr))), 1⟩ → Q (.exit 0) s)
  (hr : ∀ s, Ends a34.results 0 (r4_segmentsOf_post o) .ret s → Q .ret s) :
  Sv Tryz.prog (GG mL) 0 (.loop a34_c0) Q ⟨(upd (upd (upd (upd (upd (fun _ => none) 4 (some (B all_))) 5 (some (lstV zout 0 1 out.length))) 11 (some (lstV zv11 1 1 v11.length))) 12 (some (I (r_.length : Int)))) 13 (some (I v13))), (upd (upd (fun _ => none) 0 (lstB zout 1 (out.map eStr))) 1 (lstB zv11 1 (v11.map eStr))), 2⟩ := by
 refine Sv.loop (I := fun k s => ∃ (all_ : Bool), ∃ (out : (List (List UInt8))), ∃ (v11 : (List (List UInt8))), ∃ (v13 : Int), ∃ (zout : Bool), (zout = true → out = []) ∧ ∃ (zv11 : Bool), (zv11 = true → v11 = []) ∧ r4_segmentsOf_l0 r_ K0_ k all_ out v11 v13 = some o ∧ s = ⟨(upd (upd (upd (upd (upd (fun _ => none) 4 (some (B all_))) 5 (some (lstV zout 0 1 out.length))) 11 (some (lstV zv11 1 1 v11.length))) 12 (some (I (r_.length : Int)))) 13 (some (I v13))), (upd (upd (fun _ => none) 0 (lstB zout 1 (out.map eStr))) 1 (lstB zv11 1 (v11.map eStr))), 2⟩) (fun k s hI => ?_) ⟨all_, out, v11, v13, zout, hzout, zv11, hzv11, h, rfl⟩
 clear h
 clear hzv11 hzout zv11 zout v13 v11 out all_
 obtain ⟨all_, out, v11, v13, zout, hzout, zv11, hzv11, h, rfl⟩ := hI
 cases k with
 | zero => cases h
 | succ k =>
 rw [r4_segmentsOf_l0] at h
 have hself : ∀ (all_ : Bool) (out : (List (List UInt8))) (v11 : (List (List UInt8))) (v13 : Int) (zout : Bool) (_ : zout = true → out = []) (zv11 : Bool) (_ : zv11 = true → v11 = []), (r4_segmentsOf_l0 r_ K0_ k) all_ out v11 v13 = some o → ∀ s, Weak 0 s ⟨(upd (upd (upd (upd (upd (fun _ => none) 4 (some (B all_))) 5 (some (lstV zout 0 1 out.length))) 11 (some (lstV zv11 1 1 v11.length))) 12 (some (I (r_.length : Int)))) 13 (some (I v13))), (upd (upd (fun _ => none) 0 (lstB zout 1 (out.map eStr))) 1 (lstB zv11 1 (v11.map eStr))), 2⟩ → (AThen (fun s' => ∃ s'' k', Weak 0 s' s'' ∧ k' < k + 1 ∧ (fun k s => ∃ (all_ : Bool), ∃ (out : (List (List UInt8))), ∃ (v11 : (List (List UInt8))), ∃ (v13 : Int), ∃ (zout : Bool), (zout = true → out = []) ∧ ∃ (zv11 : Bool), (zv11 = true → v11 = []) ∧ r4_segmentsOf_l0 r_ K0_ k all_ out v11 v13 = some o ∧ s = ⟨(upd (upd (upd (upd (upd (fun _ => none) 4 (some (B all_))) 5 (some (lstV zout 0 1 out.length))) 11 (some (lstV zv11 1 1 v11.length))) 12 (some (I (r_.length : Int)))) 13 (some (I v13))), (upd (upd (fun _ => none) 0 (lstB zout 1 (out.map eStr))) 1 (lstB zv11 1 (v11.map eStr))), 2⟩) k' s'') Q) .normal s := fun all_ out v11 v13 zout hzout zv11 hzv11 h s hw => ⟨_, k, hw, Nat.lt_succ_self k, all_, out, v11, v13, zout, hzout, zv11, hzv11, h, rfl⟩
 refine Sv.seq ?_
 refine Sv.region ?_
 refine un (a1 (v := (B (decide (v13 < (r_.length : Int))))) rfl ?_)
 refine dnil ?_
 refine Sv.seq ?_
 refine Sv.cond (b := decide (v13 < (r_.length : Int))) rfl (fun hc1 => ?_) (fun hc1 => ?_)
 ·replace h := ifT hc1 h
  refine Sv.skip ?_
  refine Sv.seq ?_
  refine Sv.block ?_
  refine Sv.seq ?_
  refine Sv.region ?_
  obtain ⟨x_, hx1, h⟩ := bnd h
  refine un (a1 (v := (.c (.ref 1 1 v13.toNat 0))) (s_iaddrL rfl rfl hzv11 hx1) ?_)
  refine un (a1 (v := (S x_)) (s_loadL (z := zv11) (e := eStr) rfl rfl hzv11 hx1 rfl rfl) ?_)
  refine un (a1 rfl ?_)
  refine dnil ?_
  refine Sv.seq ?_
  refine Sv.region ?_
  refine un (a1 rfl ?_)
  obtain ⟨r_1, hr2, h⟩ := bnd h
  refine un (ac_pure (r4_Decoded_ok hr2) rfl rfl rfl ?_)
  refine un (a1 rfl ?_)
  refine un (a1 (v := (S r_1.1)) rfl ?_)
  refine un (a1 (v := (B r_1.2)) rfl ?_)
  refine un (a1 rfl ?_)
  refine un (a1 rfl ?_)
  refine dnil ?_
  refine Sv.region ?_
  refine un (a1 rfl ?_)
  refine un (a1 rfl ?_)
  refine un (a2v (v := (lstV false 2 1 [r_1.1].length)) (h' := upd _ 2 (lstB false 1 ([r_1.1].map eStr))) (n' := 3) rfl rfl (fun h => by cases h) ?_)
  obtain ⟨r_2, hr3, h⟩ := bnd h
  have hz1 : (zout && [r_1.1].isEmpty) = true → r_2 = [] := app_nil (z := zout) (ys := [r_1.1]) hzout hr3
  refine un (a2v rfl (s_app (xs := out) (ys := [r_1.1]) (e := eStr) (z := zout) (b := 0) rfl rfl hzout rfl rfl (slc_lst rfl (List.length_map _).symm (map_nil_of (fun h => by cases h))) hr3) (fun h => by cases h) ?_)
  refine un (a1 rfl ?_)
  refine un (a1 rfl ?_)
  refine gjoin 2 (d := 29) (v := (B (all_ && r_1.2))) (fun X hX => ?_) ?_
  ·refine split2 (fun hc2 => ?_) (fun hc2 => ?_)
   ·refine gt rfl (a1 rfl ?_)
    refine un (a1 (v := (B r_1.2)) rfl ?_)
    refine dnil ?_
    exact hX _ (.putEq (by rw [hc2]; rfl) (.skip _ _ (.putEq (by rw [hc2]) (.refl _)) rfl))
   ·refine gs rfl rfl ?_
    refine un (a1 (v := (B false)) rfl ?_)
    refine dnil ?_
    exact hX _ (.putEq (by rw [hc2]; rfl) (.skip _ _ (.putEq (by rw [hc2]) (.refl _)) rfl))
  refine un (a1 rfl ?_)
  refine un (a1 rfl ?_)
  refine dnil ?_
  refine Sv.region ?_
  refine un (a1 (v := (I (wi (v13 + 1)))) rfl ?_)
  refine un (a1 rfl ?_)
  refine dnil ?_
  exact hself (all_ && r_1.2) r_2 v11 (wi (v13 + 1)) (zout && [r_1.1].isEmpty) hz1 zv11 hzv11 h _ (weak_canon [3, 1] rfl (by decide) (by decide) nlz (.cons rfl (avAs_free rfl) (.cons rfl (avAs_free rfl) (.cons rfl (.c (lstC_ren rfl (by decide))) (.cons rfl (.c (lstC_ren rfl (by decide))) (.cons rfl (avAs_free rfl) .nil))))) (.row (by decide) rfl (fr_map fun _ => rfl) (.row (by decide) rfl (fr_map fun _ => rfl) .nil)))
 ·replace h := ifF hc1 h
  refine Sv.exit ?_
  exact hK0 all_ out zout hzout h _ (weak_canon [0] rfl (by decide) (by decide) nlz (.cons rfl (.c (lstC_ren rfl (by decide))) (.cons rfl (avAs_free rfl) .nil)) (.row (by decide) rfl (fr_map fun _ => rfl) .nil))
/-- clerestory/clerestoryref4.segmentsOf -/
noncomputable def r4_segmentsOf (s_ : (List UInt8)) : Option ((List (List UInt8)) × Bool) :=
 (strings_Split s_ [47]).bind fun r_ =>
 lim fun kk => r4_segmentsOf_l0 r_ (fun (all_1 : Bool) (out1 : (List (List UInt8))) => 
   some (out1, all_1)) kk true ([] : List (List UInt8)) r_ 0
theorem r4_segmentsOf_ok {mL : Int} {s_ : (List UInt8)} {r : ((List (List UInt8)) × Bool)} (h : r4_segmentsOf s_ = some r) : ACalls Tryz.prog (GG mL) 34 [(S s_)] (fun _ => none) 0 (r4_segmentsOf_post r) := by
 refine acalls_of_sv hmix c34 (R := r4_segmentsOf_post r) ?_
 unfold r4_segmentsOf at h
 refine Sv.seq ?_
 refine Sv.region ?_
 refine un (a1 rfl ?_)
 refine un (a1 rfl ?_)
 refine dnil ?_
 refine Sv.seq ?_
 refine Sv.region ?_
 refine un (a1 rfl ?_)
 refine dnil ?_
 refine Sv.seq ?_
 refine Sv.region ?_
 refine un (a1 rfl ?_)
 refine dnil ?_
 refine Sv.seq ?_
 refine Sv.seq ?_
 refine Sv.region ?_
 refine un (a1 rfl ?_)
 obtain ⟨r_, hr1, h⟩ := bnd h
 refine un (ac_gen (bs := []) («as» := [(S s_), (S [47])]) (h2 := _) (h1 := (fun _ => none)) (strings_Split_ok hr1) rfl (.cons (avAs_free rfl) (.cons (avAs_free rfl) .nil)) (hsub_refl _) (.nil _) (fun _ => rfl) (by decide) (by decide) (.cons (avAs_free rfl) (.cons (avAs_free rfl) .nil)) .nil ?_)
 rintro _ _ _ hn ⟨z_, hz_, rfl, rfl, rfl⟩
 refine ⟨.inl rfl, (upd (rem [] _) 0 (lstB z_ 1 (r_.map eStr))), fun hbd => (m3_cons (m3_row rfl (fr_map fun _ => rfl)) (m3_rem (in_nil _) (.cons (by decide) .nil) hbd)), (lstV z_ 0 1 r_.length), 1, (by cases z_ <;> rfl), rfl, ?_⟩
 refine un (a1 (v := (I (r_.length : Int))) (s_lenL rfl (len_nil_of hz_)) ?_)
 refine un (a1 rfl ?_)
 refine dnil ?_
 refine Sv.block ?_
 obtain ⟨kk, h⟩ := lim_some h
 refine Sv.weak (weak_canon [1000, 0] rfl (by decide) (by decide) nlz (.cons rfl (avAs_free rfl) (.cons rfl (avAs_free rfl) (.cons rfl (.c (lstC_ren rfl (by decide))) (.cons rfl (.c (.same rfl)) (.cons rfl (avAs_free rfl) .nil))))) (.row (by decide) rfl (fr_map fun _ => rfl) (.non (by decide) .nil))) (r4_segmentsOf_l0_ok (fun _ => rfl) hz_ h ?_ (fun s hs => hs))
 ·intro all_1 out1 zout1 hzout1 h _ hw1
  refine Sv.weak hw1 ?_
  refine Sv.seq ?_
  refine Sv.region ?_
  refine un (a1 rfl ?_)
  refine un (a1 rfl ?_)
  refine un (a1 rfl ?_)
  refine un (a1 rfl ?_)
  refine dnil ?_
  refine Sv.ret ?_
  replace h := Option.some.inj h
  subst h
  exact ⟨_, .refl _, _, rfl, ⟨upd (fun _ => none) 0 (some (.tup [(lstV zout1 0 1 out1.length), (B all_1)])), (upd (fun _ => none) 0 (lstB zout1 1 (out1.map eStr))), 1⟩, (.tup [(lstV zout1 0 1 out1.length), (B all_1)]), weak_canon2 [0] [0] (by decide) (by decide) nlz (.cons (by decide) .nil) (.cons rfl (avAs_tup (.cons (.c (lstC_ren rfl (by decide))) (.cons (avAs_free rfl) .nil))) .nil) (.row (by decide) rfl (fr_map fun _ => rfl) .nil), rfl, zout1, hzout1, rfl, rfl, rfl⟩
def a35_c0 : ACode := (.region [⟨(some 36), (.bin .add (.tmp 8) (kI 1)), none⟩, (mV 8 36)])
def a35_c1 : ACode := (.seq (.region [(oP 9 (.bin .lss (.tmp 8) (.tmp 7)))])
 (.seq (.cond (.tmp 9) .skip (.exit 0))
 (.seq (.block 1 (.seq (.region [(oP 10 (.iaddr 1 (.tmp 6) (.tmp 8))), (oP 11 (.load false 1 (.tmp 10))), (mV 5 11)])
 (.block 2 (.seq (.region [(mV 13 5), ⟨(some 14), (.bin .eql (.tmp 13) (.const (.c (.str [46, 46])))), none⟩, (mV 15 14), ⟨(some 16), (.mov (.tmp 3)), (some (15, true))⟩, ⟨(some 17), (.len (.tmp 16)), (some (15, true))⟩, ⟨(some 18), (.bin .gtr (.tmp 17) (kI 0)), (some (15, true))⟩, ⟨(some 19), (.pick (.tmp 15) (.tmp 18) (.const (.c (.val (.bool false))))), none⟩, (mV 12 19)])
 (.cond (.tmp 12) (.region [(mV 20 3), (mV 21 3), (oP 22 (.len (.tmp 21))), ⟨(some 23), (.bin .sub (.tmp 22) (kI 1)), none⟩, (oP 24 (.slSl 1 (.tmp 20) none (some (.tmp 23)) none)), (mV 3 24)]) (.seq (.region [(mV 26 5), ⟨(some 27), (.bin .neq (.tmp 26) (.const (.c (.str [46])))), none⟩, (mV 28 27), ⟨(some 29), (.mov (.tmp 5)), (some (28, true))⟩, ⟨(some 30), (.bin .neq (.tmp 29) (.const (.c (.str [46, 46])))), (some (28, true))⟩, ⟨(some 31), (.pick (.tmp 28) (.tmp 30) (.const (.c (.val (.bool false))))), none⟩, (mV 25 31)])
 (.cond (.tmp 25) (.region [(mV 32 3), (mV 33 5), (oP 34 (.bslice 1 [(.str [])] 1 [(0, (.tmp 33))])), (oP 35 (.app 1 16 (.tmp 32) (.tmp 34))), (mV 3 35)]) .skip)))))))
 a35_c0)))
def a35_c2 : ACode := (.cond (.tmp 62) (.region [(mV 63 3), ⟨(some 64), (.bslice 1 [(.str [])] 1 [(0, (.const (.c (.str []))))]), none⟩, (oP 65 (.app 1 16 (.tmp 63) (.tmp 64))), (mV 3 65)]) .skip)
def a35_c3 : ACode := (.seq (.region [(mV 66 3), (mV 2 66)])
 .ret)
def a35 : AFunc := ⟨1, [(.tmp 2)], (.seq (.region [⟨(some 2), (.mov (.const (.c (.ro true 1 [])))), none⟩])
 (.seq (.region [⟨(some 3), (.mov (.const (.c (.ro true 1 [])))), none⟩])
 (.seq (.seq (.region [(mV 6 0), (oP 7 (.len (.tmp 6))), ⟨(some 8), (.mov (kI 0)), none⟩])
 (.block 0 (.loop a35_c1)))
 (.seq (.seq (.region [(mV 37 0), (oP 38 (.len (.tmp 37))), ⟨(some 39), (.bin .gtr (.tmp 38) (kI 0)), none⟩, (mV 40 39), ⟨(some 41), (.mov (.tmp 0)), (some (40, true))⟩, ⟨(some 42), (.mov (.tmp 0)), (some (40, true))⟩, ⟨(some 43), (.len (.tmp 42)), (some (40, true))⟩, ⟨(some 44), (.bin .sub (.tmp 43) (kI 1)), (some (40, true))⟩, ⟨(some 45), (.iaddr 1 (.tmp 41) (.tmp 44)), (some (40, true))⟩, ⟨(some 46), (.load false 1 (.tmp 45)), (some (40, true))⟩, ⟨(some 47), (.bin .eql (.tmp 46) (.const (.c (.str [46])))), (some (40, true))⟩, ⟨(some 48), (.mov (.tmp 47)), (some (40, true))⟩, ⟨(some 49), (.mov (.tmp 0)), (some (48, false))⟩, ⟨(some 50), (.mov (.tmp 0)), (some (48, false))⟩, ⟨(some 51), (.len (.tmp 50)), (some (48, false))⟩, ⟨(some 52), (.bin .sub (.tmp 51) (kI 1)), (some (48, false))⟩, ⟨(some 53), (.iaddr 1 (.tmp 49) (.tmp 52)), (some (48, false))⟩, ⟨(some 54), (.load false 1 (.tmp 53)), (some (48, false))⟩, ⟨(some 55), (.bin .eql (.tmp 54) (.const (.c (.str [46, 46])))), (some (48, false))⟩, ⟨(some 56), (.pick (.tmp 48) (.const (.c (.val (.bool true)))) (.tmp 55)), (some (40, true))⟩, ⟨(some 57), (.pick (.tmp 40) (.tmp 56) (.const (.c (.val (.bool false))))), none⟩, (mV 58 57), ⟨(some 59), (.mov (.tmp 3)), (some (58, false))⟩, ⟨(some 60), (.len (.tmp 59)), (some (58, false))⟩, ⟨(some 61), (.bin .eql (.tmp 60) (kI 0)), (some (58, false))⟩, ⟨(some 62), (.pick (.tmp 58) (.const (.c (.val (.bool true)))) (.tmp 61)), none⟩])
 a35_c2)
 a35_c3))))⟩
set_option maxRecDepth 100000 in
theorem c35 : compFunc Tryz.prog 35 = some a35 := by kernel_rfl
def r4_Tidied_post (r : (List (List UInt8))) : AV → Heap → Nat → Prop := fun v h' n' => ∃ z0 : Bool, (z0 = true → r = []) ∧ v = (lstV z0 0 1 r.length) ∧ (h' = (upd (fun _ => none) 0 (lstB z0 1 (r.map eStr)))) ∧ n' = 1
noncomputable def r4_Tidied_j3 (v8 : Int) (l_ : (List (List UInt8))) (self : (List (List UInt8)) → Int → Option (List (List UInt8))) (K0_ : (List (List UInt8)) → Option (List (List UInt8))) (out2 : (List (List UInt8))) : Option (List (List UInt8)) :=
 self out2 (wi (v8 + 1))
theorem r4_Tidied_j3_ok {mL : Int} {Q : AExit → St → Prop} {v8 : Int} {l_ : (List (List UInt8))} {self : (List (List UInt8)) → Int → Option (List (List UInt8))} {K0_ : (List (List UInt8)) → Option (List (List UInt8))} {out2 : (List (List UInt8))} {zout2 : Bool} (hzout2 : zout2 = true → out2 = []) {o : (List (List UInt8))} (h : r4_Tidied_j3 v8 l_ self K0_ out2 = some o)
  (hself : ∀ (out : (List (List UInt8))) (v8 : Int) (zout : Bool) (_ : zout = true → out = []), self out v8 = some o → ∀ s, Weak 0 s ⟨(upd (upd (upd (upd (upd (fun _ => none) 0 (some (.c (.ro false 1 (l_.map eStr))))) 3 (some (lstV zout 0 1 out.length))) 6 (some (.c (.ro false 1 (l_.map eStr))))) 7 (some (I (l_.length : Int)))) 8 (some (I v8))), (upd (fun _ => none) 0 (lstB zout 1 (out.map eStr))), 1⟩ → (Q) .normal s)
  (hK0 : ∀ (out1 : (List (List UInt8))) (zout1 : Bool) (_ : zout1 = true → out1 = []), K0_ out1 = some o → ∀ s, Weak 0 s ⟨(upd (upd (fun _ => none) 0 (some (.c (.ro false 1 (l_.map eStr))))) 3 (some (lstV zout1 0 1 out1.length))), (upd (fun _ => none) 0 (lstB zout1 1 (out1.map eStr))), 1⟩ → Q (.exit 0) s)
  (hr : ∀ s, Ends a35.results 0 (r4_Tidied_post o) .ret s → Q .ret s) :
  Sv Tryz.prog (GG mL) 0 a35_c0 Q ⟨(upd (upd (upd (upd (upd (fun _ => none) 0 (some (.c (.ro false 1 (l_.map eStr))))) 3 (some (lstV zout2 0 1 out2.length))) 6 (some (.c (.ro false 1 (l_.map eStr))))) 7 (some (I (l_.length : Int)))) 8 (some (I v8))), (upd (fun _ => none) 0 (lstB zout2 1 (out2.map eStr))), 1⟩ := by
 unfold r4_Tidied_j3 at h
 refine Sv.region ?_
 refine un (a1 (v := (I (wi (v8 + 1)))) rfl ?_)
 refine un (a1 rfl ?_)
 refine dnil ?_
 exact hself out2 (wi (v8 + 1)) zout2 hzout2 h _ (weak_canon [0] rfl (by decide) (by decide) nlz (.cons rfl (avAs_free rfl) (.cons rfl (avAs_free rfl) (.cons rfl (avAs_free rfl) (.cons rfl (.c (lstC_ren rfl (by decide))) (.cons rfl (avAs_free rfl) .nil))))) (.row (by decide) rfl (fr_map fun _ => rfl) .nil))
noncomputable def r4_Tidied_l0 (l_ : (List (List UInt8))) (K0_ : (List (List UInt8)) → Option (List (List UInt8))) : Nat → (List (List UInt8)) → Int → Option (List (List UInt8))
 | 0, _, _ => none
 | k + 1, out, v8 =>
  if decide (v8 < (l_.length : Int)) then
   (at? l_ v8).bind fun x_ =>
   if ((decide (x_ = [46, 46])) && (decide (0 < (out.length : Int)))) then
    (sub? out 0 (wi ((out.length : Int) - 1))).bind fun r_ =>
    r4_Tidied_j3 v8 l_ (r4_Tidied_l0 l_ K0_ k) K0_ r_
   else
    if ((!decide (x_ = [46])) && (!decide (x_ = [46, 46]))) then
     (app? 16 out [x_]).bind fun r_1 =>
     r4_Tidied_j3 v8 l_ (r4_Tidied_l0 l_ K0_ k) K0_ r_1
    else
     r4_Tidied_j3 v8 l_ (r4_Tidied_l0 l_ K0_ k) K0_ out
  else
   K0_ out
theorem r4_Tidied_l0_ok {mL : Int} {Q : AExit → St → Prop} {l_ : (List (List UInt8))} {K0_ : (List (List UInt8)) → Option (List (List UInt8))} {k : Nat} {out : (List (List UInt8))} {v8 : Int} {zout : Bool} (hzout : zout = true → out = []) {o : (List (List UInt8))} (h : r4_Tidied_l0 l_ K0_ k out v8 = some o)
  (hK0 : ∀ (out1 : (List (List UInt8))) (zout1 : Bool) (_ : zout1 = true → out1 = []), K0_ out1 = some o → ∀ s, Weak 0 s ⟨(upd (upd (fun _ => none) 0 (some (.c (.ro false 1 (l_.map eStr))))) 3 (some (lstV zout1 0 1 out1.length))), (upd (fun _ => none) 0 (lstB zout1 1 (out1.map eStr))), 1⟩ → Q (.exit 0) s)
  (hr : ∀ s, Ends a35.results 0 (r4_Tidied_post o) .ret s → Q .ret s) :
  Sv Tryz.prog (GG mL) 0 (.loop a35_c1) Q ⟨(upd (upd (upd (upd (upd (fun _ => none) 0 (some (.c (.ro false 1 (l_.map eStr))))) 3 (some (lstV zout 0 1 out.length))) 6 (some (.c (.ro false 1 (l_.map eStr))))) 7 (some (I (l_.length : Int)))) 8 (some (I v8))), (upd (fun _ => none) 0 (lstB zout 1 (out.map eStr))), 1⟩ := by
 refine Sv.loop (I := fun k s => ∃ (out : (List (List UInt8))), ∃ (v8 : Int), ∃ (zout : Bool), (zout = true → out = []) ∧ r4_Tidied_l0 l_ K0_ k out v8 = some o ∧ s = ⟨(upd (upd (upd (upd (upd (fun _ => none) 0 (some (.c (.ro false 1 (l_.map eStr))))) 3 (some (lstV zout 0 1 out.length))) 6 (some (.c (.ro false 1 (l_.map eStr))))) 7 (some (I (l_.length : Int)))) 8 (some (I v8))), (upd (fun _ => none) 0 (lstB zout 1 (out.map eStr))), 1⟩) (fun k s hI => ?_) ⟨out, v8, zout, hzout, h, rfl⟩
 clear h
 clear hzout zout v8 out
 obtain ⟨out, v8, zout, hzout, h, rfl⟩ := hI
 cases k with
 | zero => cases h
 | succ k =>
 rw [r4_Tidied_l0] at h
 have hself : ∀ (out : (List (List UInt8))) (v8 : Int) (zout : Bool) (_ : zout = true → out = []), (r4_Tidied_l0 l_ K0_ k) out v8 = some o → ∀ s, Weak 0 s ⟨(upd (upd (upd (upd (upd (fun _ => none) 0 (some (.c (.ro false 1 (l_.map eStr))))) 3 (some (lstV zout 0 1 out.length))) 6 (some (.c (.ro false 1 (l_.map eStr))))) 7 (some (I (l_.length : Int)))) 8 (some (I v8))), (upd (fun _ => none) 0 (lstB zout 1 (out.map eStr))), 1⟩ → (AThen (fun s' => ∃ s'' k', Weak 0 s' s'' ∧ k' < k + 1 ∧ (fun k s => ∃ (out : (List (List UInt8))), ∃ (v8 : Int), ∃ (zout : Bool), (zout = true → out = []) ∧ r4_Tidied_l0 l_ K0_ k out v8 = some o ∧ s = ⟨(upd (upd (upd (upd (upd (fun _ => none) 0 (some (.c (.ro false 1 (l_.map eStr))))) 3 (some (lstV zout 0 1 out.length))) 6 (some (.c (.ro false 1 (l_.map eStr))))) 7 (some (I (l_.length : Int)))) 8 (some (I v8))), (upd (fun _ => none) 0 (lstB zout 1 (out.map eStr))), 1⟩) k' s'') Q) .normal s := fun out v8 zout hzout h s hw => ⟨_, k, hw, Nat.lt_succ_self k, out, v8, zout, hzout, h, rfl⟩
 refine Sv.seq ?_
 refine Sv.region ?_
 refine un (a1 (v := (B (decide (v8 < (l_.length : Int))))) rfl ?_)
 refine dnil ?_
 refine Sv.seq ?_
 refine Sv.cond (b := decide (v8 < (l_.length : Int))) rfl (fun hc1 => ?_) (fun hc1 => ?_)
 ·replace h := ifT hc1 h
  refine Sv.skip ?_
  refine Sv.seq ?_
  refine Sv.block ?_
  refine Sv.seq ?_
  refine Sv.region ?_
  obtain ⟨x_, hx1, h⟩ := bnd h
  refine un (a1 (v := (.c (.rop [.str x_]))) (s_iaddr (e := eStr) (xs := l_) rfl rfl hx1) ?_)
  refine un (a1 (v := (S x_)) rfl ?_)
  refine un (a1 rfl ?_)
  refine dnil ?_
  refine Sv.block ?_
  refine Sv.seq ?_
  refine Sv.region ?_
  refine un (a1 rfl ?_)
  refine un (a1 (v := (B (decide (x_ = [46, 46])))) rfl ?_)
  refine un (a1 rfl ?_)
  refine gjoin 4 (d := 19) (v := (B ((decide (x_ = [46, 46])) && (decide (0 < (out.length : Int)))))) (fun X hX => ?_) ?_
  ·refine split2 (fun hc2 => ?_) (fun hc2 => ?_)
   ·refine gt rfl (a1 rfl ?_)
    refine gt rfl (a1 (v := (I (out.length : Int))) (s_lenL rfl (len_nil_of hzout)) ?_)
    refine gt rfl (a1 (v := (B (decide (0 < (out.length : Int))))) rfl ?_)
    refine un (a1 (v := (B (decide (0 < (out.length : Int))))) rfl ?_)
    refine dnil ?_
    exact hX _ (.putEq (by rw [hc2]; rfl) (.skip _ _ (.skip _ _ (.skip _ _ (.putEq (by rw [hc2]) (.refl _)) rfl) rfl) rfl))
   ·refine gs rfl rfl ?_
    refine gs rfl rfl ?_
    refine gs rfl rfl ?_
    refine un (a1 (v := (B false)) rfl ?_)
    refine dnil ?_
    exact hX _ (.putEq (by rw [hc2]; rfl) (.skip _ _ (.skip _ _ (.skip _ _ (.putEq (by rw [hc2]) (.refl _)) rfl) rfl) rfl))
  refine un (a1 rfl ?_)
  refine dnil ?_
  refine Sv.cond (b := ((decide (x_ = [46, 46])) && (decide (0 < (out.length : Int))))) rfl (fun hc3 => ?_) (fun hc3 => ?_)
  ·replace h := ifT hc3 h
   refine Sv.region ?_
   refine un (a1 rfl ?_)
   refine un (a1 rfl ?_)
   refine un (a1 (v := (I (out.length : Int))) (s_lenL rfl (len_nil_of hzout)) ?_)
   refine un (a1 (v := (I (wi ((out.length : Int) - 1)))) rfl ?_)
   obtain ⟨r_, hx2, h⟩ := bnd h
   refine un (a1 (v := (cutV zout 0 1 r_.length out.length)) (s_cutL rfl hzout rfl rfl hx2) ?_)
   refine dweak (show Weak 0 _ ⟨(upd (upd (upd (upd (upd (upd (upd (upd (upd (upd (upd (upd (upd (upd (upd (upd (fun _ => none) 0 (some (.c (.ro false 1 (l_.map eStr))))) 5 (some (S x_))) 6 (some (.c (.ro false 1 (l_.map eStr))))) 7 (some (I (l_.length : Int)))) 8 (some (I v8))) 9 (some (B (decide (v8 < (l_.length : Int)))))) 10 (some (.c (.rop [.str x_])))) 11 (some (S x_))) 12 (some (B ((decide (x_ = [46, 46])) && (decide (0 < (out.length : Int))))))) 13 (some (S x_))) 14 (some (B (decide (x_ = [46, 46]))))) 15 (some (B (decide (x_ = [46, 46]))))) 19 (some (B ((decide (x_ = [46, 46])) && (decide (0 < (out.length : Int))))))) 22 (some (I (out.length : Int)))) 23 (some (I (wi ((out.length : Int) - 1))))) 24 (some (lstV zout 0 1 r_.length))), (upd (fun _ => none) 0 (lstB zout 1 (r_.map eStr))), 1⟩ from (weak_canon [0] rfl (by decide) (by decide) nlz (.cons rfl (.c (cut_ren rfl (by decide) (cut_le hx2))) (.cons rfl (avAs_free rfl) (.cons rfl (avAs_free rfl) (.cons rfl (avAs_free rfl) (.cons rfl (avAs_free rfl) (.cons rfl (avAs_free rfl) (.cons rfl (avAs_free rfl) (.cons rfl (avAs_free rfl) (.cons rfl (avAs_free rfl) (.cons rfl (avAs_free rfl) (.cons rfl (avAs_free rfl) (.cons rfl (avAs_free rfl) (.cons rfl (avAs_free rfl) (.cons rfl (avAs_free rfl) (.cons rfl (avAs_free rfl) (.cons rfl (avAs_free rfl) .nil)))))))))))))))) (.rowP (by decide) rfl (cutP hx2) (fr_map fun _ => rfl) .nil))) ?_
   refine un (a1 rfl ?_)
   refine dnil ?_
   exact Sv.weak (weak_canon [0] rfl (by decide) (by decide) nlz (.cons rfl (avAs_free rfl) (.cons rfl (avAs_free rfl) (.cons rfl (avAs_free rfl) (.cons rfl (.c (lstC_ren rfl (by decide))) (.cons rfl (avAs_free rfl) .nil))))) (.row (by decide) rfl (fr_map fun _ => rfl) .nil)) (r4_Tidied_j3_ok (cut_nil hzout hx2) h hself hK0 hr)
  ·replace h := ifF hc3 h
   refine Sv.seq ?_
   refine Sv.region ?_
   refine un (a1 rfl ?_)
   refine un (a1 (v := (B (!decide (x_ = [46])))) rfl ?_)
   refine un (a1 rfl ?_)
   refine gjoin 3 (d := 31) (v := (B ((!decide (x_ = [46])) && (!decide (x_ = [46, 46]))))) (fun X hX => ?_) ?_
   ·refine split2 (fun hc4 => ?_) (fun hc4 => ?_)
    ·refine gt rfl (a1 rfl ?_)
     refine gt rfl (a1 (v := (B (!decide (x_ = [46, 46])))) rfl ?_)
     refine un (a1 (v := (B (!decide (x_ = [46, 46])))) rfl ?_)
     refine dnil ?_
     exact hX _ (.putEq (by rw [hc4]; rfl) (.skip _ _ (.skip _ _ (.putEq (by rw [hc4]) (.refl _)) rfl) rfl))
    ·refine gs rfl rfl ?_
     refine gs rfl rfl ?_
     refine un (a1 (v := (B false)) rfl ?_)
     refine dnil ?_
     exact hX _ (.putEq (by rw [hc4]; rfl) (.skip _ _ (.skip _ _ (.putEq (by rw [hc4]) (.refl _)) rfl) rfl))
   refine un (a1 rfl ?_)
   refine dnil ?_
   refine Sv.cond (b := ((!decide (x_ = [46])) && (!decide (x_ = [46, 46])))) rfl (fun hc5 => ?_) (fun hc5 => ?_)
   ·replace h := ifT hc5 h
    refine Sv.region ?_
    refine un (a1 rfl ?_)
    refine un (a1 rfl ?_)
    refine un (a2v (v := (lstV false 1 1 [x_].length)) (h' := upd _ 1 (lstB false 1 ([x_].map eStr))) (n' := 2) rfl rfl (fun h => by cases h) ?_)
    obtain ⟨r_1, hr1, h⟩ := bnd h
    have hz1 : (zout && [x_].isEmpty) = true → r_1 = [] := app_nil (z := zout) (ys := [x_]) hzout hr1
    refine un (a2v rfl (s_app (xs := out) (ys := [x_]) (e := eStr) (z := zout) (b := 0) rfl rfl hzout rfl rfl (slc_lst rfl (List.length_map _).symm (map_nil_of (fun h => by cases h))) hr1) (fun h => by cases h) ?_)
    refine un (a1 rfl ?_)
    refine dnil ?_
    exact Sv.weak (weak_canon [2] rfl (by decide) (by decide) nlz (.cons rfl (avAs_free rfl) (.cons rfl (avAs_free rfl) (.cons rfl (avAs_free rfl) (.cons rfl (.c (lstC_ren rfl (by decide))) (.cons rfl (avAs_free rfl) .nil))))) (.row (by decide) rfl (fr_map fun _ => rfl) .nil)) (r4_Tidied_j3_ok hz1 h hself hK0 hr)
   ·replace h := ifF hc5 h
    refine Sv.skip ?_
    exact Sv.weak (weak_canon [0] rfl (by decide) (by decide) nlz (.cons rfl (avAs_free rfl) (.cons rfl (avAs_free rfl) (.cons rfl (avAs_free rfl) (.cons rfl (.c (lstC_ren rfl (by decide))) (.cons rfl (avAs_free rfl) .nil))))) (.row (by decide) rfl (fr_map fun _ => rfl) .nil)) (r4_Tidied_j3_ok hzout h hself hK0 hr)
 ·replace h := ifF hc1 h
  refine Sv.exit ?_
  exact hK0 out zout hzout h _ (weak_canon [0] rfl (by decide) (by decide) nlz (.cons rfl (.c (lstC_ren rfl (by decide))) (.cons rfl (avAs_free rfl) .nil)) (.row (by decide) rfl (fr_map fun _ => rfl) .nil))
noncomputable def r4_Tidied_j6 (out3 : (List (List UInt8))) : Option (List (List UInt8)) :=
 some out3
theorem r4_Tidied_j6_ok {mL : Int} {out3 : (List (List UInt8))} {zout3 : Bool} (hzout3 : zout3 = true → out3 = []) {o : (List (List UInt8))} (h : r4_Tidied_j6 out3 = some o) :
  Sv Tryz.prog (GG mL) 0 a35_c3 (Ends a35.results 0 (r4_Tidied_post o)) ⟨(upd (fun _ => none) 3 (some (lstV zout3 0 1 out3.length))), (upd (fun _ => none) 0 (lstB zout3 1 (out3.map eStr))), 1⟩ := by
 unfold r4_Tidied_j6 at h
 refine Sv.seq ?_
 refine Sv.region ?_
 refine un (a1 rfl ?_)
 refine un (a1 rfl ?_)
 refine dnil ?_
 refine Sv.ret ?_
 replace h := Option.some.inj h
 subst h
 exact ⟨_, .refl _, _, rfl, ⟨upd (fun _ => none) 0 (some (lstV zout3 0 1 out3.length)), (upd (fun _ => none) 0 (lstB zout3 1 (out3.map eStr))), 1⟩, (lstV zout3 0 1 out3.length), weak_canon2 [0] [0] (by decide) (by decide) nlz (.cons (by decide) .nil) (.cons rfl (.c (lstC_ren rfl (by decide))) .nil) (.row (by decide) rfl (fr_map fun _ => rfl) .nil), rfl, zout3, hzout3, rfl, rfl, rfl⟩
abbrev r4_Tidied_q0 (mL : Int) (o : (List (List UInt8))) : AExit → St → Prop := AThen (Sv Tryz.prog (GG mL) 0 a35_c3 (Ends a35.results 0 (r4_Tidied_post o))) (Ends a35.results 0 (r4_Tidied_post o))
noncomputable def r4_Tidied_j7 (out4 : (List (List UInt8))) (v62 : Bool) : Option (List (List UInt8)) :=
 if v62 then
  (app? 16 out4 ([[]] : List (List UInt8))).bind fun r_2 =>
  r4_Tidied_j6 r_2
 else
  r4_Tidied_j6 out4
theorem r4_Tidied_j7_ok {mL : Int} {out4 : (List (List UInt8))} {v62 : Bool} {zout4 : Bool} (hzout4 : zout4 = true → out4 = []) {o : (List (List UInt8))} (h : r4_Tidied_j7 out4 v62 = some o) :
  Sv Tryz.prog (GG mL) 0 a35_c2 (r4_Tidied_q0 mL o) ⟨(upd (upd (fun _ => none) 3 (some (lstV zout4 0 1 out4.length))) 62 (some (B v62))), (upd (fun _ => none) 0 (lstB zout4 1 (out4.map eStr))), 1⟩ := by
 unfold r4_Tidied_j7 at h
 refine Sv.cond (b := v62) rfl (fun hc6 => ?_) (fun hc6 => ?_)
 ·replace h := ifT hc6 h
  refine Sv.region ?_
  refine un (a1 rfl ?_)
  refine un (a2v (v := (lstV false 1 1 ([[]] : List (List UInt8)).length)) (h' := upd _ 1 (lstB false 1 (([[]] : List (List UInt8)).map eStr))) (n' := 2) rfl rfl (fun h => by cases h) ?_)
  obtain ⟨r_2, hr2, h⟩ := bnd h
  have hz2 : (zout4 && ([[]] : List (List UInt8)).isEmpty) = true → r_2 = [] := app_nil (z := zout4) (ys := ([[]] : List (List UInt8))) hzout4 hr2
  refine un (a2v rfl (s_app (xs := out4) (ys := ([[]] : List (List UInt8))) (e := eStr) (z := zout4) (b := 0) rfl rfl hzout4 rfl rfl (slc_lst rfl (List.length_map _).symm (map_nil_of (fun h => by cases h))) hr2) (fun h => by cases h) ?_)
  refine un (a1 rfl ?_)
  refine dnil ?_
  exact Sv.weak (weak_canon [2] rfl (by decide) (by decide) nlz (.cons rfl (.c (lstC_ren rfl (by decide))) .nil) (.row (by decide) rfl (fr_map fun _ => rfl) .nil)) (r4_Tidied_j6_ok hz2 h)
 ·replace h := ifF hc6 h
  refine Sv.skip ?_
  exact Sv.weak (weak_canon [0] rfl (by decide) (by decide) nlz (.cons rfl (.c (lstC_ren rfl (by decide))) .nil) (.row (by decide) rfl (fr_map fun _ => rfl) .nil)) (r4_Tidied_j6_ok hzout4 h)
/-- clerestory/clerestoryref4.Tidied -/
noncomputable def r4_Tidied (l_ : (List (List UInt8))) : Option (List (List UInt8)) :=
 lim fun kk => r4_Tidied_l0 l_ (fun (out1 : (List (List UInt8))) => 
   if decide (0 < (l_.length : Int)) then
    (at? l_ (wi ((l_.length : Int) - 1))).bind fun x_1 =>
    if decide (x_1 = [46]) then
     r4_Tidied_j7 out1 true
    else
     (at? l_ (wi ((l_.length : Int) - 1))).bind fun x_2 =>
     r4_Tidied_j7 out1 ((decide (x_2 = [46, 46])) || (decide ((out1.length : Int) = 0)))
   else
    r4_Tidied_j7 out1 (decide ((out1.length : Int) = 0))) kk ([] : List (List UInt8)) 0
theorem r4_Tidied_ok {mL : Int} {l_ : (List (List UInt8))} {r : (List (List UInt8))} (h : r4_Tidied l_ = some r) : ACalls Tryz.prog (GG mL) 35 [(.c (.ro false 1 (l_.map eStr)))] (fun _ => none) 0 (r4_Tidied_post r) := by
 refine acalls_of_sv hmix c35 (R := r4_Tidied_post r) ?_
 unfold r4_Tidied at h
 refine Sv.seq ?_
 refine Sv.region ?_
 refine un (a1 rfl ?_)
 refine dnil ?_
 refine Sv.seq ?_
 refine Sv.region ?_
 refine un (a1 rfl ?_)
 refine dnil ?_
 refine Sv.seq ?_
 refine Sv.seq ?_
 refine Sv.region ?_
 refine un (a1 rfl ?_)
 refine un (a1 (v := (I (l_.length : Int))) (s_len (e := eStr) (xs := l_) rfl) ?_)
 refine un (a1 rfl ?_)
 refine dnil ?_
 refine Sv.block ?_
 obtain ⟨kk, h⟩ := lim_some h
 refine Sv.weak (weak_canon [1000] rfl (by decide) (by decide) nlz (.cons rfl (avAs_free rfl) (.cons rfl (avAs_free rfl) (.cons rfl (avAs_free rfl) (.cons rfl (.c (.same rfl)) (.cons rfl (avAs_free rfl) .nil))))) (.non (by decide) .nil)) (r4_Tidied_l0_ok (fun _ => rfl) h ?_ (fun s hs => hs))
 ·intro out1 zout1 hzout1 h _ hw1
  refine Sv.weak hw1 ?_
  refine Sv.seq ?_
  refine Sv.seq ?_
  refine Sv.region ?_
  refine un (a1 rfl ?_)
  refine un (a1 (v := (I (l_.length : Int))) (s_len (e := eStr) (xs := l_) rfl) ?_)
  refine un (a1 (v := (B (decide (0 < (l_.length : Int))))) rfl ?_)
  refine un (a1 rfl ?_)
  refine split2 (fun hc7 => ?_) (fun hc7 => ?_)
  ·replace h := ifT hc7 h
   refine gt rfl (a1 rfl ?_)
   refine gt rfl (a1 rfl ?_)
   refine gt rfl (a1 (v := (I (l_.length : Int))) (s_len (e := eStr) (xs := l_) rfl) ?_)
   refine gt rfl (a1 (v := (I (wi ((l_.length : Int) - 1)))) rfl ?_)
   obtain ⟨x_1, hx3, h⟩ := bnd h
   refine gt rfl (a1 (v := (.c (.rop [.str x_1]))) (s_iaddr (e := eStr) (xs := l_) rfl rfl hx3) ?_)
   refine gt rfl (a1 (v := (S x_1)) rfl ?_)
   refine gt rfl (a1 (v := (B (decide (x_1 = [46])))) rfl ?_)
   refine gt rfl (a1 rfl ?_)
   refine split2 (fun hc8 => ?_) (fun hc8 => ?_)
   ·replace h := ifT hc8 h
    refine gs rfl rfl ?_
    refine gs rfl rfl ?_
    refine gs rfl rfl ?_
    refine gs rfl rfl ?_
    refine gs rfl rfl ?_
    refine gs rfl rfl ?_
    refine gs rfl rfl ?_
    refine gt rfl (a1 (v := (B true)) rfl ?_)
    refine un (a1 (v := (B true)) rfl ?_)
    refine un (a1 rfl ?_)
    refine gs rfl rfl ?_
    refine gs rfl rfl ?_
    refine gs rfl rfl ?_
    refine un (a1 (v := (B true)) rfl ?_)
    refine dnil ?_
    exact Sv.weak (weak_canon [0] rfl (by decide) (by decide) nlz (.cons rfl (avAs_free rfl) (.cons rfl (.c (lstC_ren rfl (by decide))) .nil)) (.row (by decide) rfl (fr_map fun _ => rfl) .nil)) (r4_Tidied_j7_ok hzout1 h)
   ·replace h := ifF hc8 h
    refine gt rfl (a1 rfl ?_)
    refine gt rfl (a1 rfl ?_)
    refine gt rfl (a1 (v := (I (l_.length : Int))) (s_len (e := eStr) (xs := l_) rfl) ?_)
    refine gt rfl (a1 (v := (I (wi ((l_.length : Int) - 1)))) rfl ?_)
    obtain ⟨x_2, hx4, h⟩ := bnd h
    refine gt rfl (a1 (v := (.c (.rop [.str x_2]))) (s_iaddr (e := eStr) (xs := l_) rfl rfl hx4) ?_)
    refine gt rfl (a1 (v := (S x_2)) rfl ?_)
    refine gt rfl (a1 (v := (B (decide (x_2 = [46, 46])))) rfl ?_)
    refine gt rfl (a1 (v := (B (decide (x_2 = [46, 46])))) rfl ?_)
    refine un (a1 (v := (B (decide (x_2 = [46, 46])))) rfl ?_)
    refine un (a1 rfl ?_)
    refine gjoin 4 (d := 62) (v := (B ((decide (x_2 = [46, 46])) || (decide ((out1.length : Int) = 0))))) (fun X hX => ?_) ?_
    ·refine split2 (fun hc9 => ?_) (fun hc9 => ?_)
     ·refine gs rfl rfl ?_
      refine gs rfl rfl ?_
      refine gs rfl rfl ?_
      refine un (a1 (v := (B true)) rfl ?_)
      refine dnil ?_
      exact hX _ (.putEq (by rw [hc9]; rfl) (.skip _ _ (.skip _ _ (.skip _ _ (.putEq (by rw [hc9]) (.refl _)) rfl) rfl) rfl))
     ·refine gt rfl (a1 rfl ?_)
      refine gt rfl (a1 (v := (I (out1.length : Int))) (s_lenL rfl (len_nil_of hzout1)) ?_)
      refine gt rfl (a1 (v := (B (decide ((out1.length : Int) = 0)))) rfl ?_)
      refine un (a1 (v := (B (decide ((out1.length : Int) = 0)))) rfl ?_)
      refine dnil ?_
      exact hX _ (.putEq (by rw [hc9]; rfl) (.skip _ _ (.skip _ _ (.skip _ _ (.putEq (by rw [hc9]) (.refl _)) rfl) rfl) rfl))
    refine dnil ?_
    exact Sv.weak (weak_canon [0] rfl (by decide) (by decide) nlz (.cons rfl (avAs_free rfl) (.cons rfl (.c (lstC_ren rfl (by decide))) .nil)) (.row (by decide) rfl (fr_map fun _ => rfl) .nil)) (r4_Tidied_j7_ok hzout1 h)
  ·replace h := ifF hc7 h
   refine gs rfl rfl ?_
   refine gs rfl rfl ?_
   refine gs rfl rfl ?_
   refine gs rfl rfl ?_
   refine gs rfl rfl ?_
   refine gs rfl rfl ?_
   refine gs rfl rfl ?_
   refine gs rfl rfl ?_
   refine gu rfl ?_
   refine gu rfl ?_
   refine gu rfl ?_
   refine gu rfl ?_
   refine gu rfl ?_
   refine gu rfl ?_
   refine gu rfl ?_
   refine gs rfl rfl ?_
   refine un (a1 (v := (B false)) rfl ?_)
   refine un (a1 rfl ?_)
   refine gt rfl (a1 rfl ?_)
   refine gt rfl (a1 (v := (I (out1.length : Int))) (s_lenL rfl (len_nil_of hzout1)) ?_)
   refine gt rfl (a1 (v := (B (decide ((out1.length : Int) = 0)))) rfl ?_)
   refine un (a1 (v := (B (decide ((out1.length : Int) = 0)))) rfl ?_)
   refine dnil ?_
   exact Sv.weak (weak_canon [0] rfl (by decide) (by decide) nlz (.cons rfl (avAs_free rfl) (.cons rfl (.c (lstC_ren rfl (by decide))) .nil)) (.row (by decide) rfl (fr_map fun _ => rfl) .nil)) (r4_Tidied_j7_ok hzout1 h)
def a8_c0 : ACode := (.cond (.tmp 37) (.seq (.region [(mV 38 4), (oP 39 (.callv (.tmp 38) [])), (oP 40 (.ext (.tmp 39) 0)), (oP 41 (.ext (.tmp 39) 1)), ⟨none, (.store 8 (.tmp 2) (.tmp 40)), none⟩, (mV 3 41)])
 .ret) .skip)
def a8_c1 : ACode := (.seq (.region [(oP 76 (.bin .lss (.tmp 75) (.tmp 74)))])
 (.seq (.cond (.tmp 76) .skip (.exit 0))
 (.seq (.block 1 (.seq (.region [(oP 77 (.iaddr 1 (.tmp 73) (.tmp 75))), (oP 78 (.load false 1 (.tmp 77))), (mV 14 78)])
 (.seq (.seq (.region [(mV 79 14), (oP 80 (.conv .i64 (.tmp 79))), ⟨(some 81), (.call 32 [(.tmp 80), (kI 48), (kI 57)]), none⟩, (oP 82 (.un .not (.tmp 81))), (mV 83 82), ⟨(some 84), (.mov (.tmp 11)), (some (83, false))⟩, ⟨(some 85), (.lenS (.tmp 84)), (some (83, false))⟩, ⟨(some 86), (.bin .gtr (.tmp 85) (kI 6)), (some (83, false))⟩, ⟨(some 87), (.pick (.tmp 83) (.const (.c (.val (.bool true)))) (.tmp 86)), none⟩])
 (.cond (.tmp 87) (.seq (.region [(mV 88 4), (oP 89 (.callv (.tmp 88) [])), (oP 90 (.ext (.tmp 89) 0)), (oP 91 (.ext (.tmp 89) 1)), ⟨none, (.store 8 (.tmp 2) (.tmp 90)), none⟩, (mV 3 91)])
 .ret) .skip))
 (.region [(mV 92 12), ⟨(some 93), (.bin .mul (kI 10) (.tmp 92)), none⟩, (mV 94 14), ⟨(some 95), (.bin .sub (.tmp 94) (.const (.c (.val (.int .u8 48))))), none⟩, (oP 96 (.conv .i64 (.tmp 95))), (oP 97 (.bin .add (.tmp 93) (.tmp 96))), (mV 12 97)]))))
 (.region [⟨(some 98), (.bin .add (.tmp 75) (kI 1)), none⟩, (mV 75 98)]))))
def a8_c2 : ACode := (.seq (.region [(mV 125 9), (oP 126 (.call 33 [(.tmp 7), (.tmp 125)])), (mV 124 126), (oP 127 (.ext (.tmp 124) 0)), (oP 128 (.ext (.tmp 124) 1)), (mV 15 127), (mV 16 128)])
 (.seq (.region [(mV 130 15), ⟨(some 131), (.call 23 [(.tmp 130), (.const (.c (.str [47])))]), none⟩, (oP 132 (.call 34 [(.tmp 131)])), (mV 129 132), (oP 133 (.ext (.tmp 129) 0)), (oP 134 (.ext (.tmp 129) 1)), (mV 17 133), (mV 18 134)])
 (.seq (.seq (.region [(mV 135 16), (oP 136 (.un .not (.tmp 135))), (mV 137 136), ⟨(some 138), (.mov (.tmp 18)), (some (137, false))⟩, ⟨(some 139), (.un .not (.tmp 138)), (some (137, false))⟩, ⟨(some 140), (.pick (.tmp 137) (.const (.c (.val (.bool true)))) (.tmp 139)), none⟩])
 (.cond (.tmp 140) (.seq (.region [(mV 141 4), (oP 142 (.callv (.tmp 141) [])), (oP 143 (.ext (.tmp 142) 0)), (oP 144 (.ext (.tmp 142) 1)), ⟨none, (.store 8 (.tmp 2) (.tmp 143)), none⟩, (mV 3 144)])
 .ret) .skip))
 (.seq (.region [(mV 145 17), (oP 146 (.call 35 [(.tmp 145)])), (oP 147 (.faddr 3 (.tmp 7))), ⟨none, (.store 1 (.tmp 147) (.tmp 146)), none⟩])
 (.seq (.region [(oP 148 (.load true 8 (.tmp 7))), ⟨none, (.store 8 (.tmp 2) (.tmp 148)), none⟩, ⟨(some 3), (.mov (kI 0)), none⟩])
 .ret)))))
def a8_c3 : ACode := (.seq (.region [(mV 42 5), ⟨(some 43), (.build [(.str []), (.str []), (.val (.int .i64 0)), (.ro true 1 []), (.str []), (.val (.bool false)), (.str []), (.val (.bool false))] [(0, (1, (.tmp 42)))]), none⟩, ⟨(some 7), (.box (.const (.agg [(.str []), (.str []), (.val (.int .i64 0)), (.ro true 1 []), (.str []), (.val (.bool false)), (.str []), (.val (.bool false))]))), none⟩, ⟨none, (.store 8 (.tmp 7) (.tmp 43)), none⟩])
 (.seq (.region [(mV 45 0), (mV 46 5), (oP 47 (.lenS (.tmp 46))), ⟨(some 48), (.bin .add (.tmp 47) (kI 3)), none⟩, (oP 49 (.slStr (.tmp 45) (some (.tmp 48)) none)), ⟨(some 50), (.call 29 [(.tmp 49), (.const (.c (.str [47, 63, 35])))]), none⟩, (mV 44 50), (oP 51 (.ext (.tmp 44) 0)), (oP 52 (.ext (.tmp 44) 1)), (mV 8 51), (mV 9 52)])
 (.seq (.region [(mV 54 8), ⟨(some 55), (.call 29 [(.tmp 54), (.const (.c (.str [58])))]), none⟩, (mV 53 55), (oP 56 (.ext (.tmp 53) 0)), (oP 57 (.ext (.tmp 53) 1)), (mV 10 56), (mV 11 57)])
 (.seq (.region [(mV 58 10), (oP 59 (.call 30 [(.tmp 58)])), (oP 60 (.faddr 1 (.tmp 7))), ⟨none, (.store 1 (.tmp 60) (.tmp 59)), none⟩])
 (.seq (.seq (.region [(oP 61 (.faddr 1 (.tmp 7))), (oP 62 (.load false 1 (.tmp 61))), (oP 63 (.call 31 [(.tmp 62)])), (oP 64 (.un .not (.tmp 63)))])
 (.cond (.tmp 64) (.seq (.region [(mV 65 4), (oP 66 (.callv (.tmp 65) [])), (oP 67 (.ext (.tmp 66) 0)), (oP 68 (.ext (.tmp 66) 1)), ⟨none, (.store 8 (.tmp 2) (.tmp 67)), none⟩, (mV 3 68)])
 .ret) .skip))
 (.seq (.seq (.region [(mV 69 11), ⟨(some 70), (.bin .neq (.tmp 69) (.const (.c (.str [])))), none⟩])
 (.cond (.tmp 70) (.seq (.region [⟨(some 12), (.mov (kI 0)), none⟩])
 (.seq (.seq (.region [(mV 71 11), ⟨(some 72), (.slStr (.tmp 71) (some (kI 1)) none), none⟩, (oP 73 (.toBytes (.tmp 72))), (oP 74 (.len (.tmp 73))), ⟨(some 75), (.mov (kI 0)), none⟩])
 (.block 0 (.loop a8_c1)))
 (.seq (.seq (.region [(mV 99 12), ⟨(some 100), (.call 32 [(.tmp 99), (kI 1), (kI 65535)]), none⟩, (oP 101 (.un .not (.tmp 100)))])
 (.cond (.tmp 101) (.seq (.region [(mV 102 4), (oP 103 (.callv (.tmp 102) [])), (oP 104 (.ext (.tmp 103) 0)), (oP 105 (.ext (.tmp 103) 1)), ⟨none, (.store 8 (.tmp 2) (.tmp 104)), none⟩, (mV 3 105)])
 .ret) .skip))
 (.seq (.region [(mV 106 5), ⟨(some 107), (.bin .eql (.tmp 106) (.const (.c (.str [104, 116, 116, 112])))), none⟩, (mV 108 107), ⟨(some 109), (.mov (.tmp 12)), (some (108, true))⟩, ⟨(some 110), (.bin .eql (.tmp 109) (kI 80)), (some (108, true))⟩, ⟨(some 111), (.pick (.tmp 108) (.tmp 110) (.const (.c (.val (.bool false))))), none⟩, (oP 112 (.un .not (.tmp 111))), (mV 113 112), ⟨(some 114), (.mov (.tmp 5)), (some (113, true))⟩, ⟨(some 115), (.bin .eql (.tmp 114) (.const (.c (.str [104, 116, 116, 112, 115])))), (some (113, true))⟩, ⟨(some 116), (.mov (.tmp 115)), (some (113, true))⟩, ⟨(some 117), (.mov (.tmp 12)), (some (116, true))⟩, ⟨(some 118), (.bin .eql (.tmp 117) (kI 443)), (some (116, true))⟩, ⟨(some 119), (.pick (.tmp 116) (.tmp 118) (.const (.c (.val (.bool false))))), (some (113, true))⟩, ⟨(some 120), (.un .not (.tmp 119)), (some (113, true))⟩, ⟨(some 121), (.pick (.tmp 113) (.tmp 120) (.const (.c (.val (.bool false))))), none⟩])
 (.cond (.tmp 121) (.region [(mV 122 12), (oP 123 (.faddr 2 (.tmp 7))), ⟨none, (.store 1 (.tmp 123) (.tmp 122)), none⟩]) .skip))))) .skip))
 a8_c2))))))
def a8 : AFunc := ⟨1, [(.cell true 8 2), (.tmp 3)], (.seq (.region [⟨(some 2), (.box (.const (.agg [(.str []), (.str []), (.val (.int .i64 0)), (.ro true 1 []), (.str []), (.val (.bool false)), (.str []), (.val (.bool false))]))), none⟩, ⟨(some 3), (.mov (kI 0)), none⟩])
 (.seq (.region [⟨(some 4), (.mov (.const (.c (.fn (.func 26) [] [])))), none⟩])
 (.seq (.seq (.region [(mV 19 0), (oP 20 (.lenS (.tmp 19))), ⟨(some 21), (.bin .gtr (.tmp 20) (kI 500)), none⟩])
 (.cond (.tmp 21) (.seq (.region [(oP 22 (.build [(.str []), (.str []), (.val (.int .i64 0)), (.ro true 1 []), (.str []), (.val (.bool false)), (.str []), (.val (.bool false))] [])), ⟨none, (.store 8 (.tmp 2) (.tmp 22)), none⟩, ⟨(some 3), (.mov (kI 2)), none⟩])
 .ret) .skip))
 (.seq (.region [(mV 24 0), (oP 25 (.call 27 [(.tmp 24)])), (mV 23 25), (oP 26 (.ext (.tmp 23) 0)), (oP 27 (.ext (.tmp 23) 1)), (mV 5 26), (mV 6 27)])
 (.seq (.seq (.region [(mV 28 6), (oP 29 (.un .not (.tmp 28))), (mV 30 29), ⟨(some 31), (.mov (.tmp 0)), (some (30, false))⟩, ⟨(some 32), (.mov (.tmp 5)), (some (30, false))⟩, ⟨(some 33), (.lenS (.tmp 32)), (some (30, false))⟩, ⟨(some 34), (.slStr (.tmp 31) (some (.tmp 33)) none), (some (30, false))⟩, ⟨(some 35), (.call 28 [(.tmp 34), (.const (.c (.str [58, 47, 47])))]), (some (30, false))⟩, ⟨(some 36), (.un .not (.tmp 35)), (some (30, false))⟩, ⟨(some 37), (.pick (.tmp 30) (.const (.c (.val (.bool true)))) (.tmp 36)), none⟩])
 a8_c0)
 a8_c3)))))⟩
set_option maxRecDepth 100000 in
theorem c8 : compFunc Tryz.prog 8 = some a8 := by kernel_rfl
def r4_Addressed_post (r : (TJUrl × Int)) : AV → Heap → Nat → Prop := fun v h' n' => v = (.tup [(.agg [.str r.1.Scheme, .str r.1.Host, cI r.1.Port, .ro false 1 (r.1.Path.map eStr), .str r.1.Query, cB r.1.Asks, .str r.1.Fragment, cB r.1.Points]), (I r.2)]) ∧ (h' = (fun _ => none)) ∧ n' = 0
noncomputable def r4_Addressed_j2 (r_ : ((List UInt8) × Bool)) (r_4 : (List UInt8)) (r_2 : ((List UInt8) × (List UInt8))) (u2 : Int) : Option (TJUrl × Int) :=
 (r4_TailOf1 (⟨r_.1, r_4, u2, [], [], false, [], false⟩ : TJUrl) r_2.2).bind fun r_6 =>
 (strings_TrimPrefix r_6.1 [47]).bind fun r_7 =>
 (r4_segmentsOf r_7).bind fun r_8 =>
 if ((!r_6.2.1) || (!r_8.2)) then
  some (r4_Addressed_fn1.1, r4_Addressed_fn1.2)
 else
  (r4_Tidied r_8.1).bind fun r_9 =>
  some ((⟨r_6.2.2.Scheme, r_6.2.2.Host, r_6.2.2.Port, r_9, r_6.2.2.Query, r_6.2.2.Asks, r_6.2.2.Fragment, r_6.2.2.Points⟩ : TJUrl), 0)
theorem r4_Addressed_j2_ok {mL : Int} {r_ : ((List UInt8) × Bool)} {r_4 : (List UInt8)} {r_2 : ((List UInt8) × (List UInt8))} {u2 : Int} {o : (TJUrl × Int)} (h : r4_Addressed_j2 r_ r_4 r_2 u2 = some o) :
  Sv Tryz.prog (GG mL) 0 a8_c2 (Ends a8.results 0 (r4_Addressed_post o)) ⟨(upd (upd (upd (upd (fun _ => none) 2 (some (.c (.ref 0 8 0 0)))) 4 (some (.c (.fn (.func 26) [] [])))) 7 (some (.c (.ref 1 8 0 0)))) 9 (some (S r_2.2))), (upd (upd (fun _ => none) 0 (some (.cells 8 [[.str [], .str [], cI 0, .ro true 1 [], .str [], cB false, .str [], cB false]]))) 1 (some (.cells 8 [[.str r_.1, .str r_4, cI u2, .ro true 1 [], .str [], cB false, .str [], cB false]]))), 2⟩ := by
 unfold r4_Addressed_j2 at h
 refine Sv.seq ?_
 refine Sv.region ?_
 refine un (a1 rfl ?_)
 refine dweak (show Weak 0 _ ⟨(upd (upd (upd (upd (upd (fun _ => none) 2 (some (.c (.ref 0 8 0 0)))) 4 (some (.c (.fn (.func 26) [] [])))) 7 (some (.c (.ref 1 8 0 0)))) 9 (some (S r_2.2))) 125 (some (S r_2.2))), (upd (upd (upd (fun _ => none) 0 (some (.cells 8 [[.str [], .str [], cI 0, .ro true 1 [], .str [], cB false, .str [], cB false]]))) 1 (some (.cells 8 [[.str r_.1, .str r_4, cI u2, lstC true 2 1 ([] : List (List UInt8)).length, .str [], cB false, .str [], cB false]]))) 2 (lstB true 1 (([] : List (List UInt8)).map eStr))), 3⟩ from (weak_canon [0, 1, 1002] rfl (by decide) (by decide) nlz (.cons rfl (avAs_free rfl) (.cons rfl (avAs_free rfl) (.cons rfl (.c (.ref rfl (by decide))) (.cons rfl (avAs_free rfl) (.cons rfl (.c (.ref rfl (by decide))) .nil))))) (.non (by decide) (.box (by decide) rfl (blkAs_cells (.cons (.same rfl) (.cons (.same rfl) (.cons (.same rfl) (.cons (.same rfl) (.cons (.same rfl) (.cons (.same rfl) (.cons (.same rfl) (.cons (.same rfl) .nil))))))))) (.box (by decide) rfl (blkAs_cells (.cons (.same rfl) (.cons (.same rfl) (.cons (.same rfl) (.cons (.same rfl) (.cons (.same rfl) (.cons (.same rfl) (.cons (.same rfl) (.cons (.same rfl) .nil))))))))) .nil))))) ?_
 obtain ⟨r_6, hr6, h⟩ := bnd h
 refine un (ac_gen (bs := [1, 2]) («as» := [(.c (.ref 1 8 0 0)), (S r_2.2)]) (h2 := _) (h1 := (upd (upd (fun _ => none) 1 (some (.cells 8 [[.str r_.1, .str r_4, cI u2, lstC true 2 1 ([] : List (List UInt8)).length, .str [], cB false, .str [], cB false]]))) 2 (lstB true 1 (([] : List (List UInt8)).map eStr)))) (r4_TailOf1_ok (fun _ => rfl) hr6) rfl (.cons (.c (.ref rfl (by decide))) (.cons (avAs_free rfl) .nil)) (hsub_refl _) (.cons rfl (.cons rfl (.nil _))) (fun h => by cases h) (by decide) (by decide) (.cons (.c (.ref rfl (by decide))) (.cons (avAs_free rfl) .nil)) (.row (by decide) rfl (fr_map fun _ => rfl) (.box (by decide) rfl (blkAs_cells (.cons (.same rfl) (.cons (.same rfl) (.cons (.same rfl) (.cons (lstC_ren rfl (by decide)) (.cons (.same rfl) (.cons (.same rfl) (.cons (.same rfl) (.cons (.same rfl) .nil))))))))) .nil)) ?_)
 rintro _ _ _ hn ⟨z_, hz_, rfl, rfl, rfl⟩
 refine ⟨.inl rfl, (upd (upd (rem [1, 2] _) 1 (some (.cells 8 [[.str r_6.2.2.Scheme, .str r_6.2.2.Host, cI r_6.2.2.Port, lstC z_ 3 1 r_6.2.2.Path.length, .str r_6.2.2.Query, cB r_6.2.2.Asks, .str r_6.2.2.Fragment, cB r_6.2.2.Points]]))) 3 (lstB z_ 1 (r_6.2.2.Path.map eStr))), fun hbd => (m3_cons (m3_row rfl (fr_map fun _ => rfl)) (m3_cons (m3_box rfl (by cases z_ <;> rfl)) (m3_rem (in_cons (by decide) (in_cons (by decide) (in_nil _))) (.cons (by decide) (.cons (by decide) .nil)) hbd))), (.tup [(S r_6.1), (B r_6.2.1)]), 4, (by cases z_ <;> rfl), rfl, ?_⟩
 refine un (a1 rfl ?_)
 refine un (a1 (v := (S r_6.1)) rfl ?_)
 refine un (a1 (v := (B r_6.2.1)) rfl ?_)
 refine un (a1 rfl ?_)
 refine un (a1 rfl ?_)
 refine dnil ?_
 refine Sv.seq ?_
 refine Sv.region ?_
 refine un (a1 rfl ?_)
 obtain ⟨r_7, hr7, h⟩ := bnd h
 refine un (ac_pure (strings_TrimPrefix_ok hr7) rfl rfl rfl ?_)
 obtain ⟨r_8, hr8, h⟩ := bnd h
 refine un (ac_gen (bs := []) («as» := [(S r_7)]) (h2 := _) (h1 := (fun _ => none)) (r4_segmentsOf_ok hr8) rfl (.cons (avAs_free rfl) .nil) (hsub_refl _) (.nil _) (fun _ => rfl) (by decide) (by decide) (.cons (avAs_free rfl) .nil) .nil ?_)
 rintro _ _ _ hn ⟨z_1, hz_1, rfl, rfl, rfl⟩
 refine ⟨.inl rfl, (upd (rem [] _) 4 (lstB z_1 1 (r_8.1.map eStr))), fun hbd => (m3_cons (m3_row rfl (fr_map fun _ => rfl)) (m3_rem (in_nil _) (.cons (by decide) .nil) hbd)), (.tup [(lstV z_1 4 1 r_8.1.length), (B r_8.2)]), 5, (by cases z_1 <;> rfl), rfl, ?_⟩
 refine un (a1 rfl ?_)
 refine un (a1 (v := (lstV z_1 4 1 r_8.1.length)) rfl ?_)
 refine un (a1 (v := (B r_8.2)) rfl ?_)
 refine un (a1 rfl ?_)
 refine un (a1 rfl ?_)
 refine dnil ?_
 refine Sv.seq ?_
 refine Sv.seq ?_
 refine Sv.region ?_
 refine un (a1 rfl ?_)
 refine un (a1 (v := (B (!r_6.2.1))) rfl ?_)
 refine un (a1 rfl ?_)
 refine gjoin 3 (d := 140) (v := (B ((!r_6.2.1) || (!r_8.2)))) (fun X hX => ?_) ?_
 ·refine split2 (fun hc4 => ?_) (fun hc4 => ?_)
  ·refine gs rfl rfl ?_
   refine gs rfl rfl ?_
   refine un (a1 (v := (B true)) rfl ?_)
   refine dnil ?_
   exact hX _ (.putEq (by rw [hc4]; rfl) (.skip _ _ (.skip _ _ (.putEq (by rw [hc4]) (.refl _)) rfl) rfl))
  ·refine gt rfl (a1 rfl ?_)
   refine gt rfl (a1 (v := (B (!r_8.2))) rfl ?_)
   refine un (a1 (v := (B (!r_8.2))) rfl ?_)
   refine dnil ?_
   exact hX _ (.putEq (by rw [hc4]; rfl) (.skip _ _ (.skip _ _ (.putEq (by rw [hc4]) (.refl _)) rfl) rfl))
 refine dnil ?_
 refine Sv.cond (b := ((!r_6.2.1) || (!r_8.2))) rfl (fun hc5 => ?_) (fun hc5 => ?_)
 ·replace h := ifT hc5 h
  refine Sv.seq ?_
  refine Sv.region ?_
  refine un (a1 rfl ?_)
  refine un (acv_gen (bs := []) («as» := []) (h2 := _) (h1 := (fun _ => none)) rfl (by kernel_rfl) (r4_Addressed_fn1_ok (mL := mL)) rfl .nil (hsub_refl _) (.nil _) (fun _ => rfl) (by decide) (by decide) .nil .nil ?_)
  rintro _ _ _ hn ⟨rfl, rfl, rfl⟩
  refine ⟨.inl rfl, (rem [] _), fun hbd => (m3_rem (in_nil _) (.nil) hbd), (.tup [(.agg [.str r4_Addressed_fn1.1.Scheme, .str r4_Addressed_fn1.1.Host, cI r4_Addressed_fn1.1.Port, .ro false 1 (r4_Addressed_fn1.1.Path.map eStr), .str r4_Addressed_fn1.1.Query, cB r4_Addressed_fn1.1.Asks, .str r4_Addressed_fn1.1.Fragment, cB r4_Addressed_fn1.1.Points]), (I r4_Addressed_fn1.2)]), 5, rfl, rfl, ?_⟩
  refine un (a1 (v := (.agg [.str r4_Addressed_fn1.1.Scheme, .str r4_Addressed_fn1.1.Host, cI r4_Addressed_fn1.1.Port, .ro false 1 (r4_Addressed_fn1.1.Path.map eStr), .str r4_Addressed_fn1.1.Query, cB r4_Addressed_fn1.1.Asks, .str r4_Addressed_fn1.1.Fragment, cB r4_Addressed_fn1.1.Points])) rfl ?_)
  refine un (a1 (v := (I r4_Addressed_fn1.2)) rfl ?_)
  refine un (a2n (h' := upd _ 0 (some (.cells 8 [[.str r4_Addressed_fn1.1.Scheme, .str r4_Addressed_fn1.1.Host, cI r4_Addressed_fn1.1.Port, .ro false 1 (r4_Addressed_fn1.1.Path.map eStr), .str r4_Addressed_fn1.1.Query, cB r4_Addressed_fn1.1.Asks, .str r4_Addressed_fn1.1.Fragment, cB r4_Addressed_fn1.1.Points]]))) (n' := 5) rfl rfl (fun h => by cases h) ?_)
  refine un (a1 rfl ?_)
  refine dnil ?_
  refine Sv.ret ?_
  replace h := Option.some.inj h
  subst h
  exact ⟨_, .refl _, _, rfl, ⟨upd (fun _ => none) 0 (some (.tup [(.agg [.str r4_Addressed_fn1.1.Scheme, .str r4_Addressed_fn1.1.Host, cI r4_Addressed_fn1.1.Port, .ro false 1 (r4_Addressed_fn1.1.Path.map eStr), .str r4_Addressed_fn1.1.Query, cB r4_Addressed_fn1.1.Asks, .str r4_Addressed_fn1.1.Fragment, cB r4_Addressed_fn1.1.Points]), (I r4_Addressed_fn1.2)])), (fun _ => none), 0⟩, (.tup [(.agg [.str r4_Addressed_fn1.1.Scheme, .str r4_Addressed_fn1.1.Host, cI r4_Addressed_fn1.1.Port, .ro false 1 (r4_Addressed_fn1.1.Path.map eStr), .str r4_Addressed_fn1.1.Query, cB r4_Addressed_fn1.1.Asks, .str r4_Addressed_fn1.1.Fragment, cB r4_Addressed_fn1.1.Points]), (I r4_Addressed_fn1.2)]), weak_canon [] rfl List.nodup_nil (Nat.le_refl _) nlz (.cons rfl (avAs_tup (.cons (avAs_free rfl) (.cons (avAs_free rfl) .nil))) .nil) .nil, rfl, rfl, rfl, rfl⟩
 ·replace h := ifF hc5 h
  refine Sv.skip ?_
  refine Sv.seq ?_
  refine Sv.region ?_
  refine un (a1 rfl ?_)
  obtain ⟨r_9, hr9, h⟩ := bnd h
  refine un (ac_gen (bs := []) («as» := [(.c (.ro false 1 (r_8.1.map eStr)))]) (h2 := (upd _ 4 none)) (h1 := (fun _ => none)) (r4_Tidied_ok hr9) rfl (.cons (.c (lstC_ro (es := List.map eStr r_8.1) rfl (List.length_map eStr).symm (map_nil_of hz_1) (gone rfl) (fr_map fun _ => rfl))) .nil) (hsub_none (hsub_refl _)) (.nil _) (fun _ => rfl) (by decide) (by decide) (.cons (avAs_free rfl) .nil) .nil ?_)
  rintro _ _ _ hn ⟨z_2, hz_2, rfl, rfl, rfl⟩
  refine ⟨.inr ⟨(by cases z_2 <;> rfl), (.row (cl_map fun _ => rfl) .nil)⟩, (upd (rem [] _) 5 (lstB z_2 1 (r_9.map eStr))), fun hbd => (m3_cons (m3_row rfl (fr_map fun _ => rfl)) (m3_rem (in_nil _) (.cons (by decide) .nil) hbd)), (lstV z_2 5 1 r_9.length), 6, (by cases z_2 <;> rfl), rfl, ?_⟩
  refine un (a1 (v := (.c (.ref 1 8 0 3))) rfl ?_)
  refine un (a2n (h' := upd _ 1 (some (.cells 8 [[.str r_6.2.2.Scheme, .str r_6.2.2.Host, cI r_6.2.2.Port, lstC z_2 5 1 r_9.length, .str r_6.2.2.Query, cB r_6.2.2.Asks, .str r_6.2.2.Fragment, cB r_6.2.2.Points]]))) (n' := 6) rfl rfl (fun h => by cases h) ?_)
  refine dnil ?_
  refine Sv.seq ?_
  refine Sv.region ?_
  refine un (a1 (v := (.agg [.str r_6.2.2.Scheme, .str r_6.2.2.Host, cI r_6.2.2.Port, lstC z_2 5 1 r_9.length, .str r_6.2.2.Query, cB r_6.2.2.Asks, .str r_6.2.2.Fragment, cB r_6.2.2.Points])) rfl ?_)
  refine un (a2n (h' := upd _ 0 (some (.cells 8 [[.str r_6.2.2.Scheme, .str r_6.2.2.Host, cI r_6.2.2.Port, lstC z_2 5 1 r_9.length, .str r_6.2.2.Query, cB r_6.2.2.Asks, .str r_6.2.2.Fragment, cB r_6.2.2.Points]]))) (n' := 6) rfl rfl (fun h => by cases h) ?_)
  refine un (a1 rfl ?_)
  refine dnil ?_
  refine Sv.ret ?_
  replace h := Option.some.inj h
  subst h
  exact ⟨_, .refl _, _, rfl, ⟨upd (fun _ => none) 0 (some (.tup [(.agg [.str r_6.2.2.Scheme, .str r_6.2.2.Host, cI r_6.2.2.Port, .ro false 1 (r_9.map eStr), .str r_6.2.2.Query, cB r_6.2.2.Asks, .str r_6.2.2.Fragment, cB r_6.2.2.Points]), (I 0)])), (fun _ => none), 0⟩, (.tup [(.agg [.str r_6.2.2.Scheme, .str r_6.2.2.Host, cI r_6.2.2.Port, .ro false 1 (r_9.map eStr), .str r_6.2.2.Query, cB r_6.2.2.Asks, .str r_6.2.2.Fragment, cB r_6.2.2.Points]), (I 0)]), weak_canon [] rfl List.nodup_nil (Nat.le_refl _) nlz (.cons rfl (avAs_tup (.cons (avAs_agg (.cons (.same rfl) (.cons (.same rfl) (.cons (.same rfl) (.cons (lstC_ro (es := List.map eStr r_9) rfl (List.length_map eStr).symm (map_nil_of hz_2) (fun b x hx => not_in (bs := []) rfl b (((.nil) : HLt _ _) b x hx)) (fr_map fun _ => rfl)) (.cons (.same rfl) (.cons (.same rfl) (.cons (.same rfl) (.cons (.same rfl) .nil))))))))) (.cons (avAs_free rfl) .nil))) .nil) .nil, rfl, rfl, rfl, rfl⟩
noncomputable def r4_Addressed_l2 (r_10 : (List UInt8)) (r_3 : ((List UInt8) × (List UInt8))) (r_ : ((List UInt8) × Bool)) (r_2 : ((List UInt8) × (List UInt8))) (r_4 : (List UInt8)) (K0_ : Int → Option (TJUrl × Int)) : Nat → Int → Int → Option (TJUrl × Int)
 | 0, _, _ => none
 | k + 1, n_, v75 =>
  if decide (v75 < ((ints r_10).length : Int)) then
   (at? (ints r_10) v75).bind fun x_ =>
   if ((!(r4_Between (wr .i64 x_) 48 57)) || (decide (6 < (r_3.2.length : Int)))) then
    some (r4_Addressed_fn1.1, r4_Addressed_fn1.2)
   else
    (r4_Addressed_l2 r_10 r_3 r_ r_2 r_4 K0_ k) (wi ((wi (10 * n_)) + (wr .i64 (wr .u8 (x_ - 48))))) (wi (v75 + 1))
  else
   K0_ n_
theorem r4_Addressed_l2_ok {mL : Int} {Q : AExit → St → Prop} {r_10 : (List UInt8)} {r_3 : ((List UInt8) × (List UInt8))} {r_ : ((List UInt8) × Bool)} {r_2 : ((List UInt8) × (List UInt8))} {r_4 : (List UInt8)} {K0_ : Int → Option (TJUrl × Int)} {k : Nat} {n_ : Int} {v75 : Int} {o : (TJUrl × Int)} (h : r4_Addressed_l2 r_10 r_3 r_ r_2 r_4 K0_ k n_ v75 = some o)
  (hK0 : ∀ (n_1 : Int), K0_ n_1 = some o → ∀ s, Weak 0 s ⟨(upd (upd (upd (upd (upd (upd (fun _ => none) 2 (some (.c (.ref 0 8 0 0)))) 4 (some (.c (.fn (.func 26) [] [])))) 5 (some (S r_.1))) 7 (some (.c (.ref 1 8 0 0)))) 9 (some (S r_2.2))) 12 (some (I n_1))), (upd (upd (fun _ => none) 0 (some (.cells 8 [[.str [], .str [], cI 0, .ro true 1 [], .str [], cB false, .str [], cB false]]))) 1 (some (.cells 8 [[.str r_.1, .str r_4, cI 0, .ro true 1 [], .str [], cB false, .str [], cB false]]))), 2⟩ → Q (.exit 0) s)
  (hr : ∀ s, Ends a8.results 0 (r4_Addressed_post o) .ret s → Q .ret s) :
  Sv Tryz.prog (GG mL) 0 (.loop a8_c1) Q ⟨(upd (upd (upd (upd (upd (upd (upd (upd (upd (upd (fun _ => none) 2 (some (.c (.ref 0 8 0 0)))) 4 (some (.c (.fn (.func 26) [] [])))) 5 (some (S r_.1))) 7 (some (.c (.ref 1 8 0 0)))) 9 (some (S r_2.2))) 11 (some (S r_3.2))) 12 (some (I n_))) 73 (some (lstV false 2 1 (ints r_10).length))) 74 (some (I ((ints r_10).length : Int)))) 75 (some (I v75))), (upd (upd (upd (fun _ => none) 0 (some (.cells 8 [[.str [], .str [], cI 0, .ro true 1 [], .str [], cB false, .str [], cB false]]))) 1 (some (.cells 8 [[.str r_.1, .str r_4, cI 0, .ro true 1 [], .str [], cB false, .str [], cB false]]))) 2 (lstB false 1 ((ints r_10).map (eK .u8)))), 3⟩ := by
 refine Sv.loop (I := fun k s => ∃ (n_ : Int), ∃ (v75 : Int), r4_Addressed_l2 r_10 r_3 r_ r_2 r_4 K0_ k n_ v75 = some o ∧ s = ⟨(upd (upd (upd (upd (upd (upd (upd (upd (upd (upd (fun _ => none) 2 (some (.c (.ref 0 8 0 0)))) 4 (some (.c (.fn (.func 26) [] [])))) 5 (some (S r_.1))) 7 (some (.c (.ref 1 8 0 0)))) 9 (some (S r_2.2))) 11 (some (S r_3.2))) 12 (some (I n_))) 73 (some (lstV false 2 1 (ints r_10).length))) 74 (some (I ((ints r_10).length : Int)))) 75 (some (I v75))), (upd (upd (upd (fun _ => none) 0 (some (.cells 8 [[.str [], .str [], cI 0, .ro true 1 [], .str [], cB false, .str [], cB false]]))) 1 (some (.cells 8 [[.str r_.1, .str r_4, cI 0, .ro true 1 [], .str [], cB false, .str [], cB false]]))) 2 (lstB false 1 ((ints r_10).map (eK .u8)))), 3⟩) (fun k s hI => ?_) ⟨n_, v75, h, rfl⟩
 clear h
 clear v75 n_
 obtain ⟨n_, v75, h, rfl⟩ := hI
 cases k with
 | zero => cases h
 | succ k =>
 rw [r4_Addressed_l2] at h
 have hself : ∀ (n_ : Int) (v75 : Int), (r4_Addressed_l2 r_10 r_3 r_ r_2 r_4 K0_ k) n_ v75 = some o → ∀ s, Weak 0 s ⟨(upd (upd (upd (upd (upd (upd (upd (upd (upd (upd (fun _ => none) 2 (some (.c (.ref 0 8 0 0)))) 4 (some (.c (.fn (.func 26) [] [])))) 5 (some (S r_.1))) 7 (some (.c (.ref 1 8 0 0)))) 9 (some (S r_2.2))) 11 (some (S r_3.2))) 12 (some (I n_))) 73 (some (lstV false 2 1 (ints r_10).length))) 74 (some (I ((ints r_10).length : Int)))) 75 (some (I v75))), (upd (upd (upd (fun _ => none) 0 (some (.cells 8 [[.str [], .str [], cI 0, .ro true 1 [], .str [], cB false, .str [], cB false]]))) 1 (some (.cells 8 [[.str r_.1, .str r_4, cI 0, .ro true 1 [], .str [], cB false, .str [], cB false]]))) 2 (lstB false 1 ((ints r_10).map (eK .u8)))), 3⟩ → (AThen (fun s' => ∃ s'' k', Weak 0 s' s'' ∧ k' < k + 1 ∧ (fun k s => ∃ (n_ : Int), ∃ (v75 : Int), r4_Addressed_l2 r_10 r_3 r_ r_2 r_4 K0_ k n_ v75 = some o ∧ s = ⟨(upd (upd (upd (upd (upd (upd (upd (upd (upd (upd (fun _ => none) 2 (some (.c (.ref 0 8 0 0)))) 4 (some (.c (.fn (.func 26) [] [])))) 5 (some (S r_.1))) 7 (some (.c (.ref 1 8 0 0)))) 9 (some (S r_2.2))) 11 (some (S r_3.2))) 12 (some (I n_))) 73 (some (lstV false 2 1 (ints r_10).length))) 74 (some (I ((ints r_10).length : Int)))) 75 (some (I v75))), (upd (upd (upd (fun _ => none) 0 (some (.cells 8 [[.str [], .str [], cI 0, .ro true 1 [], .str [], cB false, .str [], cB false]]))) 1 (some (.cells 8 [[.str r_.1, .str r_4, cI 0, .ro true 1 [], .str [], cB false, .str [], cB false]]))) 2 (lstB false 1 ((ints r_10).map (eK .u8)))), 3⟩) k' s'') Q) .normal s := fun n_ v75 h s hw => ⟨_, k, hw, Nat.lt_succ_self k, n_, v75, h, rfl⟩
 refine Sv.seq ?_
 refine Sv.region ?_
 refine un (a1 (v := (B (decide (v75 < ((ints r_10).length : Int))))) rfl ?_)
 refine dnil ?_
 refine Sv.seq ?_
 refine Sv.cond (b := decide (v75 < ((ints r_10).length : Int))) rfl (fun hc7 => ?_) (fun hc7 => ?_)
 ·replace h := ifT hc7 h
  refine Sv.skip ?_
  refine Sv.seq ?_
  refine Sv.block ?_
  refine Sv.seq ?_
  refine Sv.region ?_
  obtain ⟨x_, hx3, h⟩ := bnd h
  refine un (a1 (v := (.c (.ref 2 1 v75.toNat 0))) (s_iaddrL rfl rfl (fun h => by cases h) hx3) ?_)
  refine un (a1 (v := (.c (.val (.int .u8 x_)))) (s_loadL (z := false) (e := (eK .u8)) rfl rfl (fun h => by cases h) hx3 rfl rfl) ?_)
  refine un (a1 rfl ?_)
  refine dnil ?_
  refine Sv.seq ?_
  refine Sv.seq ?_
  refine Sv.region ?_
  refine un (a1 rfl ?_)
  refine un (a1 (v := (I (wr .i64 x_))) rfl ?_)
  refine un (ac_pure (r4_Between_ok (mL := mL) (wr .i64 x_) 48 57) rfl rfl rfl ?_)
  refine un (a1 (v := (B (!(r4_Between (wr .i64 x_) 48 57)))) rfl ?_)
  refine un (a1 rfl ?_)
  refine gjoin 4 (d := 87) (v := (B ((!(r4_Between (wr .i64 x_) 48 57)) || (decide (6 < (r_3.2.length : Int)))))) (fun X hX => ?_) ?_
  ·refine split2 (fun hc8 => ?_) (fun hc8 => ?_)
   ·refine gs rfl rfl ?_
    refine gs rfl rfl ?_
    refine gs rfl rfl ?_
    refine un (a1 (v := (B true)) rfl ?_)
    refine dnil ?_
    exact hX _ (.putEq (by rw [hc8]; rfl) (.skip _ _ (.skip _ _ (.skip _ _ (.putEq (by rw [hc8]) (.refl _)) rfl) rfl) rfl))
   ·refine gt rfl (a1 rfl ?_)
    refine gt rfl (a1 (v := (I (r_3.2.length : Int))) rfl ?_)
    refine gt rfl (a1 (v := (B (decide (6 < (r_3.2.length : Int))))) rfl ?_)
    refine un (a1 (v := (B (decide (6 < (r_3.2.length : Int))))) rfl ?_)
    refine dnil ?_
    exact hX _ (.putEq (by rw [hc8]; rfl) (.skip _ _ (.skip _ _ (.skip _ _ (.putEq (by rw [hc8]) (.refl _)) rfl) rfl) rfl))
  refine dnil ?_
  refine Sv.cond (b := ((!(r4_Between (wr .i64 x_) 48 57)) || (decide (6 < (r_3.2.length : Int))))) rfl (fun hc9 => ?_) (fun hc9 => ?_)
  ·replace h := ifT hc9 h
   refine Sv.seq ?_
   refine Sv.region ?_
   refine un (a1 rfl ?_)
   refine un (acv_gen (bs := []) («as» := []) (h2 := _) (h1 := (fun _ => none)) rfl (by kernel_rfl) (r4_Addressed_fn1_ok (mL := mL)) rfl .nil (hsub_refl _) (.nil _) (fun _ => rfl) (by decide) (by decide) .nil .nil ?_)
   rintro _ _ _ hn ⟨rfl, rfl, rfl⟩
   refine ⟨.inl rfl, (rem [] _), fun hbd => (m3_rem (in_nil _) (.nil) hbd), (.tup [(.agg [.str r4_Addressed_fn1.1.Scheme, .str r4_Addressed_fn1.1.Host, cI r4_Addressed_fn1.1.Port, .ro false 1 (r4_Addressed_fn1.1.Path.map eStr), .str r4_Addressed_fn1.1.Query, cB r4_Addressed_fn1.1.Asks, .str r4_Addressed_fn1.1.Fragment, cB r4_Addressed_fn1.1.Points]), (I r4_Addressed_fn1.2)]), 3, rfl, rfl, ?_⟩
   refine un (a1 (v := (.agg [.str r4_Addressed_fn1.1.Scheme, .str r4_Addressed_fn1.1.Host, cI r4_Addressed_fn1.1.Port, .ro false 1 (r4_Addressed_fn1.1.Path.map eStr), .str r4_Addressed_fn1.1.Query, cB r4_Addressed_fn1.1.Asks, .str r4_Addressed_fn1.1.Fragment, cB r4_Addressed_fn1.1.Points])) rfl ?_)
   refine un (a1 (v := (I r4_Addressed_fn1.2)) rfl ?_)
   refine un (a2n (h' := upd _ 0 (some (.cells 8 [[.str r4_Addressed_fn1.1.Scheme, .str r4_Addressed_fn1.1.Host, cI r4_Addressed_fn1.1.Port, .ro false 1 (r4_Addressed_fn1.1.Path.map eStr), .str r4_Addressed_fn1.1.Query, cB r4_Addressed_fn1.1.Asks, .str r4_Addressed_fn1.1.Fragment, cB r4_Addressed_fn1.1.Points]]))) (n' := 3) rfl rfl (fun h => by cases h) ?_)
   refine un (a1 rfl ?_)
   refine dnil ?_
   refine Sv.ret ?_
   replace h := Option.some.inj h
   subst h
   exact hr _ ⟨_, .refl _, _, rfl, ⟨upd (fun _ => none) 0 (some (.tup [(.agg [.str r4_Addressed_fn1.1.Scheme, .str r4_Addressed_fn1.1.Host, cI r4_Addressed_fn1.1.Port, .ro false 1 (r4_Addressed_fn1.1.Path.map eStr), .str r4_Addressed_fn1.1.Query, cB r4_Addressed_fn1.1.Asks, .str r4_Addressed_fn1.1.Fragment, cB r4_Addressed_fn1.1.Points]), (I r4_Addressed_fn1.2)])), (fun _ => none), 0⟩, (.tup [(.agg [.str r4_Addressed_fn1.1.Scheme, .str r4_Addressed_fn1.1.Host, cI r4_Addressed_fn1.1.Port, .ro false 1 (r4_Addressed_fn1.1.Path.map eStr), .str r4_Addressed_fn1.1.Query, cB r4_Addressed_fn1.1.Asks, .str r4_Addressed_fn1.1.Fragment, cB r4_Addressed_fn1.1.Points]), (I r4_Addressed_fn1.2)]), weak_canon [] rfl List.nodup_nil (Nat.le_refl _) nlz (.cons rfl (avAs_tup (.cons (avAs_free rfl) (.cons (avAs_free rfl) .nil))) .nil) .nil, rfl, rfl, rfl, rfl⟩
  ·replace h := ifF hc9 h
   refine Sv.skip ?_
   refine Sv.region ?_
   refine un (a1 rfl ?_)
   refine un (a1 (v := (I (wi (10 * n_)))) rfl ?_)
   refine un (a1 rfl ?_)
   refine un (a1 (v := (.c (.val (.int .u8 (wr .u8 (x_ - 48)))))) rfl ?_)
   refine un (a1 (v := (I (wr .i64 (wr .u8 (x_ - 48))))) rfl ?_)
   refine un (a1 (v := (I (wi ((wi (10 * n_)) + (wr .i64 (wr .u8 (x_ - 48))))))) rfl ?_)
   refine un (a1 rfl ?_)
   refine dnil ?_
   refine Sv.region ?_
   refine un (a1 (v := (I (wi (v75 + 1)))) rfl ?_)
   refine un (a1 rfl ?_)
   refine dnil ?_
   exact hself (wi ((wi (10 * n_)) + (wr .i64 (wr .u8 (x_ - 48))))) (wi (v75 + 1)) h _ (weak_canon [0, 1, 2] rfl (by decide) (by decide) nlz (.cons rfl (avAs_free rfl) (.cons rfl (avAs_free rfl) (.cons rfl (.c (lstC_ren rfl (by decide))) (.cons rfl (avAs_free rfl) (.cons rfl (avAs_free rfl) (.cons rfl (avAs_free rfl) (.cons rfl (.c (.ref rfl (by decide))) (.cons rfl (avAs_free rfl) (.cons rfl (avAs_free rfl) (.cons rfl (.c (.ref rfl (by decide))) .nil)))))))))) (.row (by decide) rfl (fr_map fun _ => rfl) (.box (by decide) rfl (blkAs_cells (.cons (.same rfl) (.cons (.same rfl) (.cons (.same rfl) (.cons (.same rfl) (.cons (.same rfl) (.cons (.same rfl) (.cons (.same rfl) (.cons (.same rfl) .nil))))))))) (.box (by decide) rfl (blkAs_cells (.cons (.same rfl) (.cons (.same rfl) (.cons (.same rfl) (.cons (.same rfl) (.cons (.same rfl) (.cons (.same rfl) (.cons (.same rfl) (.cons (.same rfl) .nil))))))))) .nil))))
 ·replace h := ifF hc7 h
  refine Sv.exit ?_
  exact hK0 n_ h _ (weak_canon [0, 1] rfl (by decide) (by decide) nlz (.cons rfl (avAs_free rfl) (.cons rfl (avAs_free rfl) (.cons rfl (.c (.ref rfl (by decide))) (.cons rfl (avAs_free rfl) (.cons rfl (avAs_free rfl) (.cons rfl (.c (.ref rfl (by decide))) .nil)))))) (.box (by decide) rfl (blkAs_cells (.cons (.same rfl) (.cons (.same rfl) (.cons (.same rfl) (.cons (.same rfl) (.cons (.same rfl) (.cons (.same rfl) (.cons (.same rfl) (.cons (.same rfl) .nil))))))))) (.box (by decide) rfl (blkAs_cells (.cons (.same rfl) (.cons (.same rfl) (.cons (.same rfl) (.cons (.same rfl) (.cons (.same rfl) (.cons (.same rfl) (.cons (.same rfl) (.cons (.same rfl) .nil))))))))) .nil)))
abbrev r4_Addressed_q0 (mL : Int) (o : (TJUrl × Int)) : AExit → St → Prop := AThen (Sv Tryz.prog (GG mL) 0 a8_c3 (Ends a8.results 0 (r4_Addressed_post o))) (Ends a8.results 0 (r4_Addressed_post o))
noncomputable def r4_Addressed_j1 (s_ : (List UInt8)) (r_ : ((List UInt8) × Bool)) (v37 : Bool) : Option (TJUrl × Int) :=
 if v37 then
  some (r4_Addressed_fn1.1, r4_Addressed_fn1.2)
 else
  (sub? s_ (wi ((r_.1.length : Int) + 3)) (s_.length : Int)).bind fun r_1 =>
  (r4_parted r_1 [47, 63, 35]).bind fun r_2 =>
  (r4_parted r_2.1 [58]).bind fun r_3 =>
  (r4_lower r_3.1).bind fun r_4 =>
  (r4_hostRight r_4).bind fun r_5 =>
  if (!r_5) then
   some (r4_Addressed_fn1.1, r4_Addressed_fn1.2)
  else
   if (!decide (r_3.2 = [])) then
    (sub? r_3.2 1 (r_3.2.length : Int)).bind fun r_10 =>
    lim fun kk => r4_Addressed_l2 r_10 r_3 r_ r_2 r_4 (fun (n_1 : Int) => 
      if (!(r4_Between n_1 1 65535)) then
       some (r4_Addressed_fn1.1, r4_Addressed_fn1.2)
      else
       if ((!((decide (r_.1 = [104, 116, 116, 112])) && (decide (n_1 = 80)))) && (!((decide (r_.1 = [104, 116, 116, 112, 115])) && (decide (n_1 = 443))))) then
        r4_Addressed_j2 r_ r_4 r_2 n_1
       else
        r4_Addressed_j2 r_ r_4 r_2 0) kk 0 0
   else
    r4_Addressed_j2 r_ r_4 r_2 0
theorem r4_Addressed_j1_ok {mL : Int} {s_ : (List UInt8)} {r_ : ((List UInt8) × Bool)} {v37 : Bool} {o : (TJUrl × Int)} (h : r4_Addressed_j1 s_ r_ v37 = some o) :
  Sv Tryz.prog (GG mL) 0 a8_c0 (r4_Addressed_q0 mL o) ⟨(upd (upd (upd (upd (upd (fun _ => none) 0 (some (S s_))) 2 (some (.c (.ref 0 8 0 0)))) 4 (some (.c (.fn (.func 26) [] [])))) 5 (some (S r_.1))) 37 (some (B v37))), (upd (fun _ => none) 0 (some (.cells 8 [[.str [], .str [], cI 0, .ro true 1 [], .str [], cB false, .str [], cB false]]))), 1⟩ := by
 unfold r4_Addressed_j1 at h
 refine Sv.cond (b := v37) rfl (fun hc2 => ?_) (fun hc2 => ?_)
 ·replace h := ifT hc2 h
  refine Sv.seq ?_
  refine Sv.region ?_
  refine un (a1 rfl ?_)
  refine un (acv_gen (bs := []) («as» := []) (h2 := _) (h1 := (fun _ => none)) rfl (by kernel_rfl) (r4_Addressed_fn1_ok (mL := mL)) rfl .nil (hsub_refl _) (.nil _) (fun _ => rfl) (by decide) (by decide) .nil .nil ?_)
  rintro _ _ _ hn ⟨rfl, rfl, rfl⟩
  refine ⟨.inl rfl, (rem [] _), fun hbd => (m3_rem (in_nil _) (.nil) hbd), (.tup [(.agg [.str r4_Addressed_fn1.1.Scheme, .str r4_Addressed_fn1.1.Host, cI r4_Addressed_fn1.1.Port, .ro false 1 (r4_Addressed_fn1.1.Path.map eStr), .str r4_Addressed_fn1.1.Query, cB r4_Addressed_fn1.1.Asks, .str r4_Addressed_fn1.1.Fragment, cB r4_Addressed_fn1.1.Points]), (I r4_Addressed_fn1.2)]), 1, rfl, rfl, ?_⟩
  refine un (a1 (v := (.agg [.str r4_Addressed_fn1.1.Scheme, .str r4_Addressed_fn1.1.Host, cI r4_Addressed_fn1.1.Port, .ro false 1 (r4_Addressed_fn1.1.Path.map eStr), .str r4_Addressed_fn1.1.Query, cB r4_Addressed_fn1.1.Asks, .str r4_Addressed_fn1.1.Fragment, cB r4_Addressed_fn1.1.Points])) rfl ?_)
  refine un (a1 (v := (I r4_Addressed_fn1.2)) rfl ?_)
  refine un (a2n (h' := upd _ 0 (some (.cells 8 [[.str r4_Addressed_fn1.1.Scheme, .str r4_Addressed_fn1.1.Host, cI r4_Addressed_fn1.1.Port, .ro false 1 (r4_Addressed_fn1.1.Path.map eStr), .str r4_Addressed_fn1.1.Query, cB r4_Addressed_fn1.1.Asks, .str r4_Addressed_fn1.1.Fragment, cB r4_Addressed_fn1.1.Points]]))) (n' := 1) rfl rfl (fun h => by cases h) ?_)
  refine un (a1 rfl ?_)
  refine dnil ?_
  refine Sv.ret ?_
  replace h := Option.some.inj h
  subst h
  exact ⟨_, .refl _, _, rfl, ⟨upd (fun _ => none) 0 (some (.tup [(.agg [.str r4_Addressed_fn1.1.Scheme, .str r4_Addressed_fn1.1.Host, cI r4_Addressed_fn1.1.Port, .ro false 1 (r4_Addressed_fn1.1.Path.map eStr), .str r4_Addressed_fn1.1.Query, cB r4_Addressed_fn1.1.Asks, .str r4_Addressed_fn1.1.Fragment, cB r4_Addressed_fn1.1.Points]), (I r4_Addressed_fn1.2)])), (fun _ => none), 0⟩, (.tup [(.agg [.str r4_Addressed_fn1.1.Scheme, .str r4_Addressed_fn1.1.Host, cI r4_Addressed_fn1.1.Port, .ro false 1 (r4_Addressed_fn1.1.Path.map eStr), .str r4_Addressed_fn1.1.Query, cB r4_Addressed_fn1.1.Asks, .str r4_Addressed_fn1.1.Fragment, cB r4_Addressed_fn1.1.Points]), (I r4_Addressed_fn1.2)]), weak_canon [] rfl List.nodup_nil (Nat.le_refl _) nlz (.cons rfl (avAs_tup (.cons (avAs_free rfl) (.cons (avAs_free rfl) .nil))) .nil) .nil, rfl, rfl, rfl, rfl⟩
 ·replace h := ifF hc2 h
  refine Sv.skip ?_
  refine Sv.seq ?_
  refine Sv.region ?_
  refine un (a1 rfl ?_)
  refine un (a1 (v := (.agg [.str r_.1, .str [], cI 0, .ro true 1 [], .str [], cB false, .str [], cB false])) rfl ?_)
  refine un (a2v (v := (.c (.ref 1 8 0 0))) (h' := upd _ 1 (some (.cells 8 [[.str [], .str [], cI 0, .ro true 1 [], .str [], cB false, .str [], cB false]]))) (n' := 2) rfl rfl (fun h => by cases h) ?_)
  refine un (a2n (h' := upd _ 1 (some (.cells 8 [[.str r_.1, .str [], cI 0, .ro true 1 [], .str [], cB false, .str [], cB false]]))) (n' := 2) rfl rfl (fun h => by cases h) ?_)
  refine dnil ?_
  refine Sv.seq ?_
  refine Sv.region ?_
  refine un (a1 rfl ?_)
  refine un (a1 rfl ?_)
  refine un (a1 (v := (I (r_.1.length : Int))) rfl ?_)
  refine un (a1 (v := (I (wi ((r_.1.length : Int) + 3)))) rfl ?_)
  obtain ⟨r_1, hx1, h⟩ := bnd h
  refine un (a1 (v := (S r_1)) (s_slStr rfl rfl rfl hx1) ?_)
  obtain ⟨r_2, hr2, h⟩ := bnd h
  refine un (ac_pure (r4_parted_ok hr2) rfl rfl rfl ?_)
  refine un (a1 rfl ?_)
  refine un (a1 (v := (S r_2.1)) rfl ?_)
  refine un (a1 (v := (S r_2.2)) rfl ?_)
  refine un (a1 rfl ?_)
  refine un (a1 rfl ?_)
  refine dnil ?_
  refine Sv.seq ?_
  refine Sv.region ?_
  refine un (a1 rfl ?_)
  obtain ⟨r_3, hr3, h⟩ := bnd h
  refine un (ac_pure (r4_parted_ok hr3) rfl rfl rfl ?_)
  refine un (a1 rfl ?_)
  refine un (a1 (v := (S r_3.1)) rfl ?_)
  refine un (a1 (v := (S r_3.2)) rfl ?_)
  refine un (a1 rfl ?_)
  refine un (a1 rfl ?_)
  refine dnil ?_
  refine Sv.seq ?_
  refine Sv.region ?_
  refine un (a1 rfl ?_)
  obtain ⟨r_4, hr4, h⟩ := bnd h
  refine un (ac_pure (r4_lower_ok hr4) rfl rfl rfl ?_)
  refine un (a1 (v := (.c (.ref 1 8 0 1))) rfl ?_)
  refine un (a2n (h' := upd _ 1 (some (.cells 8 [[.str r_.1, .str r_4, cI 0, .ro true 1 [], .str [], cB false, .str [], cB false]]))) (n' := 2) rfl rfl (fun h => by cases h) ?_)
  refine dnil ?_
  refine Sv.seq ?_
  refine Sv.seq ?_
  refine Sv.region ?_
  refine un (a1 (v := (.c (.ref 1 8 0 1))) rfl ?_)
  refine un (a1 (v := (S r_4)) rfl ?_)
  obtain ⟨r_5, hr5, h⟩ := bnd h
  refine un (ac_pure (r4_hostRight_ok hr5) rfl rfl rfl ?_)
  refine un (a1 (v := (B (!r_5))) rfl ?_)
  refine dnil ?_
  refine Sv.cond (b := (!r_5)) rfl (fun hc3 => ?_) (fun hc3 => ?_)
  ·replace h := ifT hc3 h
   refine Sv.seq ?_
   refine Sv.region ?_
   refine un (a1 rfl ?_)
   refine un (acv_gen (bs := []) («as» := []) (h2 := _) (h1 := (fun _ => none)) rfl (by kernel_rfl) (r4_Addressed_fn1_ok (mL := mL)) rfl .nil (hsub_refl _) (.nil _) (fun _ => rfl) (by decide) (by decide) .nil .nil ?_)
   rintro _ _ _ hn ⟨rfl, rfl, rfl⟩
   refine ⟨.inl rfl, (rem [] _), fun hbd => (m3_rem (in_nil _) (.nil) hbd), (.tup [(.agg [.str r4_Addressed_fn1.1.Scheme, .str r4_Addressed_fn1.1.Host, cI r4_Addressed_fn1.1.Port, .ro false 1 (r4_Addressed_fn1.1.Path.map eStr), .str r4_Addressed_fn1.1.Query, cB r4_Addressed_fn1.1.Asks, .str r4_Addressed_fn1.1.Fragment, cB r4_Addressed_fn1.1.Points]), (I r4_Addressed_fn1.2)]), 2, rfl, rfl, ?_⟩
   refine un (a1 (v := (.agg [.str r4_Addressed_fn1.1.Scheme, .str r4_Addressed_fn1.1.Host, cI r4_Addressed_fn1.1.Port, .ro false 1 (r4_Addressed_fn1.1.Path.map eStr), .str r4_Addressed_fn1.1.Query, cB r4_Addressed_fn1.1.Asks, .str r4_Addressed_fn1.1.Fragment, cB r4_Addressed_fn1.1.Points])) rfl ?_)
   refine un (a1 (v := (I r4_Addressed_fn1.2)) rfl ?_)
   refine un (a2n (h' := upd _ 0 (some (.cells 8 [[.str r4_Addressed_fn1.1.Scheme, .str r4_Addressed_fn1.1.Host, cI r4_Addressed_fn1.1.Port, .ro false 1 (r4_Addressed_fn1.1.Path.map eStr), .str r4_Addressed_fn1.1.Query, cB r4_Addressed_fn1.1.Asks, .str r4_Addressed_fn1.1.Fragment, cB r4_Addressed_fn1.1.Points]]))) (n' := 2) rfl rfl (fun h => by cases h) ?_)
   refine un (a1 rfl ?_)
   refine dnil ?_
   refine Sv.ret ?_
   replace h := Option.some.inj h
   subst h
   exact ⟨_, .refl _, _, rfl, ⟨upd (fun _ => none) 0 (some (.tup [(.agg [.str r4_Addressed_fn1.1.Scheme, .str r4_Addressed_fn1.1.Host, cI r4_Addressed_fn1.1.Port, .ro false 1 (r4_Addressed_fn1.1.Path.map eStr), .str r4_Addressed_fn1.1.Query, cB r4_Addressed_fn1.1.Asks, .str r4_Addressed_fn1.1.Fragment, cB r4_Addressed_fn1.1.Points]), (I r4_Addressed_fn1.2)])), (fun _ => none), 0⟩, (.tup [(.agg [.str r4_Addressed_fn1.1.Scheme, .str r4_Addressed_fn1.1.Host, cI r4_Addressed_fn1.1.Port, .ro false 1 (r4_Addressed_fn1.1.Path.map eStr), .str r4_Addressed_fn1.1.Query, cB r4_Addressed_fn1.1.Asks, .str r4_Addressed_fn1.1.Fragment, cB r4_Addressed_fn1.1.Points]), (I r4_Addressed_fn1.2)]), weak_canon [] rfl List.nodup_nil (Nat.le_refl _) nlz (.cons rfl (avAs_tup (.cons (avAs_free rfl) (.cons (avAs_free rfl) .nil))) .nil) .nil, rfl, rfl, rfl, rfl⟩
  ·replace h := ifF hc3 h
   refine Sv.skip ?_
   refine Sv.seq ?_
   refine Sv.seq ?_
   refine Sv.region ?_
   refine un (a1 rfl ?_)
   refine un (a1 (v := (B (!decide (r_3.2 = [])))) rfl ?_)
   refine dnil ?_
   refine Sv.cond (b := (!decide (r_3.2 = []))) rfl (fun hc6 => ?_) (fun hc6 => ?_)
   ·replace h := ifT hc6 h
    refine Sv.seq ?_
    refine Sv.region ?_
    refine un (a1 rfl ?_)
    refine dnil ?_
    refine Sv.seq ?_
    refine Sv.seq ?_
    refine Sv.region ?_
    refine un (a1 rfl ?_)
    obtain ⟨r_10, hx2, h⟩ := bnd h
    refine un (a1 (v := (S r_10)) (s_slStr rfl rfl rfl hx2) ?_)
    refine un (a2v (v := (lstV false 2 1 (ints r_10).length)) (h' := upd _ 2 (lstB false 1 ((ints r_10).map (eK .u8)))) (n' := 3) rfl (s_toBytes rfl) (fun h => by cases h) ?_)
    refine un (a1 (v := (I ((ints r_10).length : Int))) (s_lenL rfl (len_nil_of (fun h => by cases h))) ?_)
    refine un (a1 rfl ?_)
    refine dnil ?_
    refine Sv.block ?_
    obtain ⟨kk, h⟩ := lim_some h
    refine Sv.weak (weak_canon [0, 1, 2] rfl (by decide) (by decide) nlz (.cons rfl (avAs_free rfl) (.cons rfl (avAs_free rfl) (.cons rfl (.c (lstC_ren rfl (by decide))) (.cons rfl (avAs_free rfl) (.cons rfl (avAs_free rfl) (.cons rfl (avAs_free rfl) (.cons rfl (.c (.ref rfl (by decide))) (.cons rfl (avAs_free rfl) (.cons rfl (avAs_free rfl) (.cons rfl (.c (.ref rfl (by decide))) .nil)))))))))) (.row (by decide) rfl (fr_map fun _ => rfl) (.box (by decide) rfl (blkAs_cells (.cons (.same rfl) (.cons (.same rfl) (.cons (.same rfl) (.cons (.same rfl) (.cons (.same rfl) (.cons (.same rfl) (.cons (.same rfl) (.cons (.same rfl) .nil))))))))) (.box (by decide) rfl (blkAs_cells (.cons (.same rfl) (.cons (.same rfl) (.cons (.same rfl) (.cons (.same rfl) (.cons (.same rfl) (.cons (.same rfl) (.cons (.same rfl) (.cons (.same rfl) .nil))))))))) .nil)))) (r4_Addressed_l2_ok h ?_ (fun s hs => hs))
    ·intro n_1 h _ hw1
     refine Sv.weak hw1 ?_
     refine Sv.seq ?_
     refine Sv.seq ?_
     refine Sv.region ?_
     refine un (a1 rfl ?_)
     refine un (ac_pure (r4_Between_ok (mL := mL) n_1 1 65535) rfl rfl rfl ?_)
     refine un (a1 (v := (B (!(r4_Between n_1 1 65535)))) rfl ?_)
     refine dnil ?_
     refine Sv.cond (b := (!(r4_Between n_1 1 65535))) rfl (fun hc10 => ?_) (fun hc10 => ?_)
     ·replace h := ifT hc10 h
      refine Sv.seq ?_
      refine Sv.region ?_
      refine un (a1 rfl ?_)
      refine un (acv_gen (bs := []) («as» := []) (h2 := _) (h1 := (fun _ => none)) rfl (by kernel_rfl) (r4_Addressed_fn1_ok (mL := mL)) rfl .nil (hsub_refl _) (.nil _) (fun _ => rfl) (by decide) (by decide) .nil .nil ?_)
      rintro _ _ _ hn ⟨rfl, rfl, rfl⟩
      refine ⟨.inl rfl, (rem [] _), fun hbd => (m3_rem (in_nil _) (.nil) hbd), (.tup [(.agg [.str r4_Addressed_fn1.1.Scheme, .str r4_Addressed_fn1.1.Host, cI r4_Addressed_fn1.1.Port, .ro false 1 (r4_Addressed_fn1.1.Path.map eStr), .str r4_Addressed_fn1.1.Query, cB r4_Addressed_fn1.1.Asks, .str r4_Addressed_fn1.1.Fragment, cB r4_Addressed_fn1.1.Points]), (I r4_Addressed_fn1.2)]), 2, rfl, rfl, ?_⟩
      refine un (a1 (v := (.agg [.str r4_Addressed_fn1.1.Scheme, .str r4_Addressed_fn1.1.Host, cI r4_Addressed_fn1.1.Port, .ro false 1 (r4_Addressed_fn1.1.Path.map eStr), .str r4_Addressed_fn1.1.Query, cB r4_Addressed_fn1.1.Asks, .str r4_Addressed_fn1.1.Fragment, cB r4_Addressed_fn1.1.Points])) rfl ?_)
      refine un (a1 (v := (I r4_Addressed_fn1.2)) rfl ?_)
      refine un (a2n (h' := upd _ 0 (some (.cells 8 [[.str r4_Addressed_fn1.1.Scheme, .str r4_Addressed_fn1.1.Host, cI r4_Addressed_fn1.1.Port, .ro false 1 (r4_Addressed_fn1.1.Path.map eStr), .str r4_Addressed_fn1.1.Query, cB r4_Addressed_fn1.1.Asks, .str r4_Addressed_fn1.1.Fragment, cB r4_Addressed_fn1.1.Points]]))) (n' := 2) rfl rfl (fun h => by cases h) ?_)
      refine un (a1 rfl ?_)
      refine dnil ?_
      refine Sv.ret ?_
      replace h := Option.some.inj h
      subst h
      exact ⟨_, .refl _, _, rfl, ⟨upd (fun _ => none) 0 (some (.tup [(.agg [.str r4_Addressed_fn1.1.Scheme, .str r4_Addressed_fn1.1.Host, cI r4_Addressed_fn1.1.Port, .ro false 1 (r4_Addressed_fn1.1.Path.map eStr), .str r4_Addressed_fn1.1.Query, cB r4_Addressed_fn1.1.Asks, .str r4_Addressed_fn1.1.Fragment, cB r4_Addressed_fn1.1.Points]), (I r4_Addressed_fn1.2)])), (fun _ => none), 0⟩, (.tup [(.agg [.str r4_Addressed_fn1.1.Scheme, .str r4_Addressed_fn1.1.Host, cI r4_Addressed_fn1.1.Port, .ro false 1 (r4_Addressed_fn1.1.Path.map eStr), .str r4_Addressed_fn1.1.Query, cB r4_Addressed_fn1.1.Asks, .str r4_Addressed_fn1.1.Fragment, cB r4_Addressed_fn1.1.Points]), (I r4_Addressed_fn1.2)]), weak_canon [] rfl List.nodup_nil (Nat.le_refl _) nlz (.cons rfl (avAs_tup (.cons (avAs_free rfl) (.cons (avAs_free rfl) .nil))) .nil) .nil, rfl, rfl, rfl, rfl⟩
     ·replace h := ifF hc10 h
      refine Sv.skip ?_
      refine Sv.seq ?_
      refine Sv.region ?_
      refine un (a1 rfl ?_)
      refine un (a1 (v := (B (decide (r_.1 = [104, 116, 116, 112])))) rfl ?_)
      refine un (a1 rfl ?_)
      refine gjoin 3 (d := 111) (v := (B ((decide (r_.1 = [104, 116, 116, 112])) && (decide (n_1 = 80))))) (fun X hX => ?_) ?_
      ·refine split2 (fun hc11 => ?_) (fun hc11 => ?_)
       ·refine gt rfl (a1 rfl ?_)
        refine gt rfl (a1 (v := (B (decide (n_1 = 80)))) rfl ?_)
        refine un (a1 (v := (B (decide (n_1 = 80)))) rfl ?_)
        refine dnil ?_
        exact hX _ (.putEq (by rw [hc11]; rfl) (.skip _ _ (.skip _ _ (.putEq (by rw [hc11]) (.refl _)) rfl) rfl))
       ·refine gs rfl rfl ?_
        refine gs rfl rfl ?_
        refine un (a1 (v := (B false)) rfl ?_)
        refine dnil ?_
        exact hX _ (.putEq (by rw [hc11]; rfl) (.skip _ _ (.skip _ _ (.putEq (by rw [hc11]) (.refl _)) rfl) rfl))
      refine un (a1 (v := (B (!((decide (r_.1 = [104, 116, 116, 112])) && (decide (n_1 = 80)))))) rfl ?_)
      refine un (a1 rfl ?_)
      refine gjoin 8 (d := 121) (v := (B ((!((decide (r_.1 = [104, 116, 116, 112])) && (decide (n_1 = 80)))) && (!((decide (r_.1 = [104, 116, 116, 112, 115])) && (decide (n_1 = 443))))))) (fun X hX => ?_) ?_
      ·refine split2 (fun hc13 => ?_) (fun hc13 => ?_)
       ·refine gt rfl (a1 rfl ?_)
        refine gt rfl (a1 (v := (B (decide (r_.1 = [104, 116, 116, 112, 115])))) rfl ?_)
        refine gt rfl (a1 rfl ?_)
        refine gjoin 3 (d := 119) (v := (B ((decide (r_.1 = [104, 116, 116, 112, 115])) && (decide (n_1 = 443))))) (fun X hX => ?_) ?_
        ·refine split2 (fun hc12 => ?_) (fun hc12 => ?_)
         ·refine gt rfl (a1 rfl ?_)
          refine gt rfl (a1 (v := (B (decide (n_1 = 443)))) rfl ?_)
          refine gt rfl (a1 (v := (B (decide (n_1 = 443)))) rfl ?_)
          refine dnil ?_
          exact hX _ (.putEq (by rw [hc12]; rfl) (.skip _ _ (.skip _ _ (.putEq (by rw [hc12]) (.refl _)) rfl) rfl))
         ·refine gs rfl rfl ?_
          refine gs rfl rfl ?_
          refine gt rfl (a1 (v := (B false)) rfl ?_)
          refine dnil ?_
          exact hX _ (.putEq (by rw [hc12]; rfl) (.skip _ _ (.skip _ _ (.putEq (by rw [hc12]) (.refl _)) rfl) rfl))
        refine gt rfl (a1 (v := (B (!((decide (r_.1 = [104, 116, 116, 112, 115])) && (decide (n_1 = 443)))))) rfl ?_)
        refine un (a1 (v := (B (!((decide (r_.1 = [104, 116, 116, 112, 115])) && (decide (n_1 = 443)))))) rfl ?_)
        refine dnil ?_
        exact hX _ (.putEq (by rw [hc13]; rfl) (.skip _ _ (.skip _ _ (.skip _ _ (.skip _ _ (.skip _ _ (.putEq (by rw [hc13]) (.refl _)) rfl) rfl) rfl) rfl) rfl))
       ·refine gs rfl rfl ?_
        refine gs rfl rfl ?_
        refine gs rfl rfl ?_
        refine gu rfl ?_
        refine gu rfl ?_
        refine gs rfl rfl ?_
        refine gs rfl rfl ?_
        refine un (a1 (v := (B false)) rfl ?_)
        refine dnil ?_
        exact hX _ (.putEq (by rw [hc13]; rfl) (.skip _ _ (.skip _ _ (.skip _ _ (.skip _ _ (.skip _ _ (.skip _ _ (.skip _ _ (.putEq (by rw [hc13]) (.refl _)) rfl) rfl) rfl) rfl) rfl) rfl) rfl))
      refine dnil ?_
      refine Sv.cond (b := ((!((decide (r_.1 = [104, 116, 116, 112])) && (decide (n_1 = 80)))) && (!((decide (r_.1 = [104, 116, 116, 112, 115])) && (decide (n_1 = 443)))))) rfl (fun hc14 => ?_) (fun hc14 => ?_)
      ·replace h := ifT hc14 h
       refine Sv.region ?_
       refine un (a1 rfl ?_)
       refine un (a1 (v := (.c (.ref 1 8 0 2))) rfl ?_)
       refine un (a2n (h' := upd _ 1 (some (.cells 8 [[.str r_.1, .str r_4, cI n_1, .ro true 1 [], .str [], cB false, .str [], cB false]]))) (n' := 2) rfl rfl (fun h => by cases h) ?_)
       refine dnil ?_
       exact Sv.weak (weak_canon [0, 1] rfl (by decide) (by decide) nlz (.cons rfl (avAs_free rfl) (.cons rfl (.c (.ref rfl (by decide))) (.cons rfl (avAs_free rfl) (.cons rfl (.c (.ref rfl (by decide))) .nil)))) (.box (by decide) rfl (blkAs_cells (.cons (.same rfl) (.cons (.same rfl) (.cons (.same rfl) (.cons (.same rfl) (.cons (.same rfl) (.cons (.same rfl) (.cons (.same rfl) (.cons (.same rfl) .nil))))))))) (.box (by decide) rfl (blkAs_cells (.cons (.same rfl) (.cons (.same rfl) (.cons (.same rfl) (.cons (.same rfl) (.cons (.same rfl) (.cons (.same rfl) (.cons (.same rfl) (.cons (.same rfl) .nil))))))))) .nil))) (r4_Addressed_j2_ok h)
      ·replace h := ifF hc14 h
       refine Sv.skip ?_
       exact Sv.weak (weak_canon [0, 1] rfl (by decide) (by decide) nlz (.cons rfl (avAs_free rfl) (.cons rfl (.c (.ref rfl (by decide))) (.cons rfl (avAs_free rfl) (.cons rfl (.c (.ref rfl (by decide))) .nil)))) (.box (by decide) rfl (blkAs_cells (.cons (.same rfl) (.cons (.same rfl) (.cons (.same rfl) (.cons (.same rfl) (.cons (.same rfl) (.cons (.same rfl) (.cons (.same rfl) (.cons (.same rfl) .nil))))))))) (.box (by decide) rfl (blkAs_cells (.cons (.same rfl) (.cons (.same rfl) (.cons (.same rfl) (.cons (.same rfl) (.cons (.same rfl) (.cons (.same rfl) (.cons (.same rfl) (.cons (.same rfl) .nil))))))))) .nil))) (r4_Addressed_j2_ok h)
   ·replace h := ifF hc6 h
    refine Sv.skip ?_
    exact Sv.weak (weak_canon [0, 1] rfl (by decide) (by decide) nlz (.cons rfl (avAs_free rfl) (.cons rfl (.c (.ref rfl (by decide))) (.cons rfl (avAs_free rfl) (.cons rfl (.c (.ref rfl (by decide))) .nil)))) (.box (by decide) rfl (blkAs_cells (.cons (.same rfl) (.cons (.same rfl) (.cons (.same rfl) (.cons (.same rfl) (.cons (.same rfl) (.cons (.same rfl) (.cons (.same rfl) (.cons (.same rfl) .nil))))))))) (.box (by decide) rfl (blkAs_cells (.cons (.same rfl) (.cons (.same rfl) (.cons (.same rfl) (.cons (.same rfl) (.cons (.same rfl) (.cons (.same rfl) (.cons (.same rfl) (.cons (.same rfl) .nil))))))))) .nil))) (r4_Addressed_j2_ok h)
/-- clerestory/clerestoryref4.Addressed -/
noncomputable def r4_Addressed (s_ : (List UInt8)) : Option (TJUrl × Int) :=
 if decide (500 < (s_.length : Int)) then
  some ((⟨[], [], 0, [], [], false, [], false⟩ : TJUrl), 2)
 else
  (r4_SchemeOf s_).bind fun r_ =>
  if (!r_.2) then
   r4_Addressed_j1 s_ r_ true
  else
   (sub? s_ (r_.1.length : Int) (s_.length : Int)).bind fun r_11 =>
   (strings_HasPrefix r_11 [58, 47, 47]).bind fun r_12 =>
   r4_Addressed_j1 s_ r_ (!r_12)
theorem r4_Addressed_ok {mL : Int} {s_ : (List UInt8)} {r : (TJUrl × Int)} (h : r4_Addressed s_ = some r) : CPure Tryz.prog (GG mL) 8 [(S s_)] (.tup [(.agg [.str r.1.Scheme, .str r.1.Host, cI r.1.Port, .ro false 1 (r.1.Path.map eStr), .str r.1.Query, cB r.1.Asks, .str r.1.Fragment, cB r.1.Points]), (I r.2)]) := by
 refine acalls_of_sv hmix c8 (R := r4_Addressed_post r) ?_
 unfold r4_Addressed at h
 refine Sv.seq ?_
 refine Sv.region ?_
 refine un (a2v (v := (.c (.ref 0 8 0 0))) (h' := upd _ 0 (some (.cells 8 [[.str [], .str [], cI 0, .ro true 1 [], .str [], cB false, .str [], cB false]]))) (n' := 1) rfl rfl (fun h => by cases h) ?_)
 refine un (a1 rfl ?_)
 refine dnil ?_
 refine Sv.seq ?_
 refine Sv.region ?_
 refine un (a1 rfl ?_)
 refine dnil ?_
 refine Sv.seq ?_
 refine Sv.seq ?_
 refine Sv.region ?_
 refine un (a1 rfl ?_)
 refine un (a1 (v := (I (s_.length : Int))) rfl ?_)
 refine un (a1 (v := (B (decide (500 < (s_.length : Int))))) rfl ?_)
 refine dnil ?_
 refine Sv.cond (b := decide (500 < (s_.length : Int))) rfl (fun hc1 => ?_) (fun hc1 => ?_)
 ·replace h := ifT hc1 h
  refine Sv.seq ?_
  refine Sv.region ?_
  refine un (a1 (v := (.agg [.str [], .str [], cI 0, .ro true 1 [], .str [], cB false, .str [], cB false])) rfl ?_)
  refine un (a2n (h' := upd _ 0 (some (.cells 8 [[.str [], .str [], cI 0, .ro true 1 [], .str [], cB false, .str [], cB false]]))) (n' := 1) rfl rfl (fun h => by cases h) ?_)
  refine un (a1 rfl ?_)
  refine dnil ?_
  refine Sv.ret ?_
  replace h := Option.some.inj h
  subst h
  exact ⟨_, .refl _, _, rfl, ⟨upd (fun _ => none) 0 (some (.tup [(.agg [.str [], .str [], cI 0, .ro false 1 (([] : List (List UInt8)).map eStr), .str [], cB false, .str [], cB false]), (I 2)])), (fun _ => none), 0⟩, (.tup [(.agg [.str [], .str [], cI 0, .ro false 1 (([] : List (List UInt8)).map eStr), .str [], cB false, .str [], cB false]), (I 2)]), weak_canon [] rfl List.nodup_nil (Nat.le_refl _) nlz (.cons rfl (avAs_tup (.cons (avAs_agg (.cons (.same rfl) (.cons (.same rfl) (.cons (.same rfl) (.cons .nil (.cons (.same rfl) (.cons (.same rfl) (.cons (.same rfl) (.cons (.same rfl) .nil))))))))) (.cons (avAs_free rfl) .nil))) .nil) .nil, rfl, rfl, rfl, rfl⟩
 ·replace h := ifF hc1 h
  refine Sv.skip ?_
  refine Sv.seq ?_
  refine Sv.region ?_
  refine un (a1 rfl ?_)
  obtain ⟨r_, hr1, h⟩ := bnd h
  refine un (ac_pure (r4_SchemeOf_ok hr1) rfl rfl rfl ?_)
  refine un (a1 rfl ?_)
  refine un (a1 (v := (S r_.1)) rfl ?_)
  refine un (a1 (v := (B r_.2)) rfl ?_)
  refine un (a1 rfl ?_)
  refine un (a1 rfl ?_)
  refine dnil ?_
  refine Sv.seq ?_
  refine Sv.seq ?_
  refine Sv.region ?_
  refine un (a1 rfl ?_)
  refine un (a1 (v := (B (!r_.2))) rfl ?_)
  refine un (a1 rfl ?_)
  refine split2 (fun hc15 => ?_) (fun hc15 => ?_)
  ·replace h := ifT hc15 h
   refine gs rfl rfl ?_
   refine gs rfl rfl ?_
   refine gs rfl rfl ?_
   refine gs rfl rfl ?_
   refine gs rfl rfl ?_
   refine gs rfl rfl ?_
   refine un (a1 (v := (B true)) rfl ?_)
   refine dnil ?_
   exact Sv.weak (weak_canon [0] rfl (by decide) (by decide) nlz (.cons rfl (avAs_free rfl) (.cons rfl (avAs_free rfl) (.cons rfl (avAs_free rfl) (.cons rfl (.c (.ref rfl (by decide))) (.cons rfl (avAs_free rfl) .nil))))) (.box (by decide) rfl (blkAs_cells (.cons (.same rfl) (.cons (.same rfl) (.cons (.same rfl) (.cons (.same rfl) (.cons (.same rfl) (.cons (.same rfl) (.cons (.same rfl) (.cons (.same rfl) .nil))))))))) .nil)) (r4_Addressed_j1_ok h)
  ·replace h := ifF hc15 h
   refine gt rfl (a1 rfl ?_)
   refine gt rfl (a1 rfl ?_)
   refine gt rfl (a1 (v := (I (r_.1.length : Int))) rfl ?_)
   obtain ⟨r_11, hx4, h⟩ := bnd h
   refine gt rfl (a1 (v := (S r_11)) (s_slStr rfl rfl rfl hx4) ?_)
   obtain ⟨r_12, hr10, h⟩ := bnd h
   refine gt rfl (ac_pure (strings_HasPrefix_ok hr10) rfl rfl rfl ?_)
   refine gt rfl (a1 (v := (B (!r_12))) rfl ?_)
   refine un (a1 (v := (B (!r_12))) rfl ?_)
   refine dnil ?_
   exact Sv.weak (weak_canon [0] rfl (by decide) (by decide) nlz (.cons rfl (avAs_free rfl) (.cons rfl (avAs_free rfl) (.cons rfl (avAs_free rfl) (.cons rfl (.c (.ref rfl (by decide))) (.cons rfl (avAs_free rfl) .nil))))) (.box (by decide) rfl (blkAs_cells (.cons (.same rfl) (.cons (.same rfl) (.cons (.same rfl) (.cons (.same rfl) (.cons (.same rfl) (.cons (.same rfl) (.cons (.same rfl) (.cons (.same rfl) .nil))))))))) .nil)) (r4_Addressed_j1_ok h)
def a9_c0 : ACode := (.seq (.region [(oP 17 (.bin .lss (.tmp 16) (.tmp 15)))])
 (.seq (.cond (.tmp 17) .skip (.exit 0))
 (.seq (.block 1 (.seq (.region [(mV 18 16), (mV 5 18)])
 (.seq (.drawn (.fin [((oP 19 (.faddr 3 (.tmp 2))), (0, 0)), ((oP 20 (.load false 1 (.tmp 19))), (0, 1)), ((mV 21 5), (0, 2)), ((oP 22 (.iaddr 1 (.tmp 20) (.tmp 21))), (0, 3)), ((oP 23 (.load false 1 (.tmp 22))), (0, 4)), ((oP 24 (.faddr 3 (.tmp 3))), (0, 5)), ((oP 25 (.load false 1 (.tmp 24))), (0, 6)), ((mV 26 5), (0, 7)), ((oP 27 (.iaddr 1 (.tmp 25) (.tmp 26))), (0, 8)), ((oP 28 (.load false 1 (.tmp 27))), (0, 9)), ((oP 29 (.bin .neq (.tmp 23) (.tmp 28))), (0, 10))]))
 (.cond (.tmp 29) (.seq (.region [⟨(some 4), (.mov (.const (.c (.val (.bool false))))), none⟩])
 .ret) .skip))))
 (.region [⟨(some 30), (.bin .add (.tmp 16) (kI 1)), none⟩, (mV 16 30)]))))
def a9 : AFunc := ⟨2, [(.tmp 4)], (.seq (.region [(oP 2 (.box (.tmp 0))), (oP 3 (.box (.tmp 1))), ⟨(some 4), (.mov (.const (.c (.val (.bool false))))), none⟩])
 (.seq (.seq (.region [(oP 6 (.faddr 3 (.tmp 2))), (oP 7 (.load false 1 (.tmp 6))), (oP 8 (.len (.tmp 7))), (oP 9 (.faddr 3 (.tmp 3))), (oP 10 (.load false 1 (.tmp 9))), (oP 11 (.len (.tmp 10))), (oP 12 (.bin .neq (.tmp 8) (.tmp 11)))])
 (.cond (.tmp 12) (.seq (.region [⟨(some 4), (.mov (.const (.c (.val (.bool false))))), none⟩])
 .ret) .skip))
 (.seq (.seq (.region [(oP 13 (.faddr 3 (.tmp 2))), (oP 14 (.load false 1 (.tmp 13))), (oP 15 (.len (.tmp 14))), ⟨(some 16), (.mov (kI 0)), none⟩])
 (.block 0 (.loop a9_c0)))
 (.seq (.region [(oP 31 (.faddr 0 (.tmp 2))), (oP 32 (.load false 1 (.tmp 31))), (oP 33 (.faddr 0 (.tmp 3))), (oP 34 (.load false 1 (.tmp 33))), (oP 35 (.bin .eql (.tmp 32) (.tmp 34))), (mV 36 35), ⟨(some 37), (.faddr 1 (.tmp 2)), (some (36, true))⟩, ⟨(some 38), (.load false 1 (.tmp 37)), (some (36, true))⟩, ⟨(some 39), (.faddr 1 (.tmp 3)), (some (36, true))⟩, ⟨(some 40), (.load false 1 (.tmp 39)), (some (36, true))⟩, ⟨(some 41), (.bin .eql (.tmp 38) (.tmp 40)), (some (36, true))⟩, ⟨(some 42), (.pick (.tmp 36) (.tmp 41) (.const (.c (.val (.bool false))))), none⟩, (mV 43 42), ⟨(some 44), (.faddr 2 (.tmp 2)), (some (43, true))⟩, ⟨(some 45), (.load false 1 (.tmp 44)), (some (43, true))⟩, ⟨(some 46), (.faddr 2 (.tmp 3)), (some (43, true))⟩, ⟨(some 47), (.load false 1 (.tmp 46)), (some (43, true))⟩, ⟨(some 48), (.bin .eql (.tmp 45) (.tmp 47)), (some (43, true))⟩, ⟨(some 49), (.pick (.tmp 43) (.tmp 48) (.const (.c (.val (.bool false))))), none⟩, (mV 50 49), ⟨(some 51), (.faddr 4 (.tmp 2)), (some (50, true))⟩, ⟨(some 52), (.load false 1 (.tmp 51)), (some (50, true))⟩, ⟨(some 53), (.faddr 4 (.tmp 3)), (some (50, true))⟩, ⟨(some 54), (.load false 1 (.tmp 53)), (some (50, true))⟩, ⟨(some 55), (.bin .eql (.tmp 52) (.tmp 54)), (some (50, true))⟩, ⟨(some 56), (.pick (.tmp 50) (.tmp 55) (.const (.c (.val (.bool false))))), none⟩, (mV 57 56), ⟨(some 58), (.faddr 5 (.tmp 2)), (some (57, true))⟩, ⟨(some 59), (.load false 1 (.tmp 58)), (some (57, true))⟩, ⟨(some 60), (.faddr 5 (.tmp 3)), (some (57, true))⟩, ⟨(some 61), (.load false 1 (.tmp 60)), (some (57, true))⟩, ⟨(some 62), (.eqs false false [.b] (.tmp 59) (.tmp 61)), (some (57, true))⟩, ⟨(some 63), (.pick (.tmp 57) (.tmp 62) (.const (.c (.val (.bool false))))), none⟩, (mV 64 63), ⟨(some 65), (.faddr 6 (.tmp 2)), (some (64, true))⟩, ⟨(some 66), (.load false 1 (.tmp 65)), (some (64, true))⟩, ⟨(some 67), (.faddr 6 (.tmp 3)), (some (64, true))⟩, ⟨(some 68), (.load false 1 (.tmp 67)), (some (64, true))⟩, ⟨(some 69), (.bin .eql (.tmp 66) (.tmp 68)), (some (64, true))⟩, ⟨(some 70), (.pick (.tmp 64) (.tmp 69) (.const (.c (.val (.bool false))))), none⟩, (mV 71 70), ⟨(some 72), (.faddr 7 (.tmp 2)), (some (71, true))⟩, ⟨(some 73), (.load false 1 (.tmp 72)), (some (71, true))⟩, ⟨(some 74), (.faddr 7 (.tmp 3)), (some (71, true))⟩, ⟨(some 75), (.load false 1 (.tmp 74)), (some (71, true))⟩, ⟨(some 76), (.eqs false false [.b] (.tmp 73) (.tmp 75)), (some (71, true))⟩, ⟨(some 77), (.pick (.tmp 71) (.tmp 76) (.const (.c (.val (.bool false))))), none⟩, (mV 4 77)])
 .ret))))⟩
set_option maxRecDepth 100000 in
theorem c9 : compFunc Tryz.prog 9 = some a9 := by kernel_rfl
def r4_SameUrl_post (r : Bool) : AV → Heap → Nat → Prop := fun v h' n' => v = (B r) ∧ (h' = (fun _ => none)) ∧ n' = 0
noncomputable def r4_SameUrl_l0 (a_ : TJUrl) (b_ : TJUrl) (K0_ : Unit → Option Bool) : Nat → Int → Option Bool
 | 0, _ => none
 | k + 1, v16 =>
  if decide (v16 < (a_.Path.length : Int)) then
   (at? a_.Path v16).bind fun x_ =>
   (at? b_.Path v16).bind fun x_1 =>
   if (!decide (x_ = x_1)) then
    some false
   else
    (r4_SameUrl_l0 a_ b_ K0_ k) (wi (v16 + 1))
  else
   K0_ ()
theorem r4_SameUrl_l0_ok {mL : Int} {Q : AExit → St → Prop} {a_ : TJUrl} {b_ : TJUrl} {K0_ : Unit → Option Bool} {k : Nat} {v16 : Int} {o : Bool} (h : r4_SameUrl_l0 a_ b_ K0_ k v16 = some o)
  (hK0 : ∀ (_ : Unit), K0_ () = some o → ∀ s, Weak 0 s ⟨(upd (upd (fun _ => none) 2 (some (.c (.ref 0 8 0 0)))) 3 (some (.c (.ref 1 8 0 0)))), (upd (upd (fun _ => none) 0 (some (.cells 8 [[.str a_.Scheme, .str a_.Host, cI a_.Port, .ro false 1 (a_.Path.map eStr), .str a_.Query, cB a_.Asks, .str a_.Fragment, cB a_.Points]]))) 1 (some (.cells 8 [[.str b_.Scheme, .str b_.Host, cI b_.Port, .ro false 1 (b_.Path.map eStr), .str b_.Query, cB b_.Asks, .str b_.Fragment, cB b_.Points]]))), 2⟩ → Q (.exit 0) s)
  (hr : ∀ s, Ends a9.results 0 (r4_SameUrl_post o) .ret s → Q .ret s) :
  Sv Tryz.prog (GG mL) 0 (.loop a9_c0) Q ⟨(upd (upd (upd (upd (fun _ => none) 2 (some (.c (.ref 0 8 0 0)))) 3 (some (.c (.ref 1 8 0 0)))) 15 (some (I (a_.Path.length : Int)))) 16 (some (I v16))), (upd (upd (fun _ => none) 0 (some (.cells 8 [[.str a_.Scheme, .str a_.Host, cI a_.Port, .ro false 1 (a_.Path.map eStr), .str a_.Query, cB a_.Asks, .str a_.Fragment, cB a_.Points]]))) 1 (some (.cells 8 [[.str b_.Scheme, .str b_.Host, cI b_.Port, .ro false 1 (b_.Path.map eStr), .str b_.Query, cB b_.Asks, .str b_.Fragment, cB b_.Points]]))), 2⟩ := by
 refine Sv.loop (I := fun k s => ∃ (v16 : Int), r4_SameUrl_l0 a_ b_ K0_ k v16 = some o ∧ s = ⟨(upd (upd (upd (upd (fun _ => none) 2 (some (.c (.ref 0 8 0 0)))) 3 (some (.c (.ref 1 8 0 0)))) 15 (some (I (a_.Path.length : Int)))) 16 (some (I v16))), (upd (upd (fun _ => none) 0 (some (.cells 8 [[.str a_.Scheme, .str a_.Host, cI a_.Port, .ro false 1 (a_.Path.map eStr), .str a_.Query, cB a_.Asks, .str a_.Fragment, cB a_.Points]]))) 1 (some (.cells 8 [[.str b_.Scheme, .str b_.Host, cI b_.Port, .ro false 1 (b_.Path.map eStr), .str b_.Query, cB b_.Asks, .str b_.Fragment, cB b_.Points]]))), 2⟩) (fun k s hI => ?_) ⟨v16, h, rfl⟩
 clear h
 clear v16
 obtain ⟨v16, h, rfl⟩ := hI
 cases k with
 | zero => cases h
 | succ k =>
 rw [r4_SameUrl_l0] at h
 have hself : ∀ (v16 : Int), (r4_SameUrl_l0 a_ b_ K0_ k) v16 = some o → ∀ s, Weak 0 s ⟨(upd (upd (upd (upd (fun _ => none) 2 (some (.c (.ref 0 8 0 0)))) 3 (some (.c (.ref 1 8 0 0)))) 15 (some (I (a_.Path.length : Int)))) 16 (some (I v16))), (upd (upd (fun _ => none) 0 (some (.cells 8 [[.str a_.Scheme, .str a_.Host, cI a_.Port, .ro false 1 (a_.Path.map eStr), .str a_.Query, cB a_.Asks, .str a_.Fragment, cB a_.Points]]))) 1 (some (.cells 8 [[.str b_.Scheme, .str b_.Host, cI b_.Port, .ro false 1 (b_.Path.map eStr), .str b_.Query, cB b_.Asks, .str b_.Fragment, cB b_.Points]]))), 2⟩ → (AThen (fun s' => ∃ s'' k', Weak 0 s' s'' ∧ k' < k + 1 ∧ (fun k s => ∃ (v16 : Int), r4_SameUrl_l0 a_ b_ K0_ k v16 = some o ∧ s = ⟨(upd (upd (upd (upd (fun _ => none) 2 (some (.c (.ref 0 8 0 0)))) 3 (some (.c (.ref 1 8 0 0)))) 15 (some (I (a_.Path.length : Int)))) 16 (some (I v16))), (upd (upd (fun _ => none) 0 (some (.cells 8 [[.str a_.Scheme, .str a_.Host, cI a_.Port, .ro false 1 (a_.Path.map eStr), .str a_.Query, cB a_.Asks, .str a_.Fragment, cB a_.Points]]))) 1 (some (.cells 8 [[.str b_.Scheme, .str b_.Host, cI b_.Port, .ro false 1 (b_.Path.map eStr), .str b_.Query, cB b_.Asks, .str b_.Fragment, cB b_.Points]]))), 2⟩) k' s'') Q) .normal s := fun v16 h s hw => ⟨_, k, hw, Nat.lt_succ_self k, v16, h, rfl⟩
 refine Sv.seq ?_
 refine Sv.region ?_
 refine un (a1 (v := (B (decide (v16 < (a_.Path.length : Int))))) rfl ?_)
 refine dnil ?_
 refine Sv.seq ?_
 refine Sv.cond (b := decide (v16 < (a_.Path.length : Int))) rfl (fun hc2 => ?_) (fun hc2 => ?_)
 ·replace h := ifT hc2 h
  refine Sv.skip ?_
  refine Sv.seq ?_
  refine Sv.block ?_
  refine Sv.seq ?_
  refine Sv.region ?_
  refine un (a1 rfl ?_)
  refine un (a1 rfl ?_)
  refine dnil ?_
  refine Sv.seq ?_
  refine Sv.drawn ?_
  refine un (a1 (v := (.c (.ref 0 8 0 3))) rfl ?_)
  refine un (a1 (v := (.c (.ro false 1 (a_.Path.map eStr)))) rfl ?_)
  refine un (a1 rfl ?_)
  obtain ⟨x_, hx1, h⟩ := bnd h
  refine un (a1 (v := (.c (.rop [.str x_]))) (s_iaddr (e := eStr) (xs := a_.Path) rfl rfl hx1) ?_)
  refine un (a1 (v := (S x_)) rfl ?_)
  refine un (a1 (v := (.c (.ref 1 8 0 3))) rfl ?_)
  refine un (a1 (v := (.c (.ro false 1 (b_.Path.map eStr)))) rfl ?_)
  refine un (a1 rfl ?_)
  obtain ⟨x_1, hx2, h⟩ := bnd h
  refine un (a1 (v := (.c (.rop [.str x_1]))) (s_iaddr (e := eStr) (xs := b_.Path) rfl rfl hx2) ?_)
  refine un (a1 (v := (S x_1)) rfl ?_)
  refine un (a1 (v := (B (!decide (x_ = x_1)))) rfl ?_)
  refine dnil ?_
  refine Sv.cond (b := (!decide (x_ = x_1))) rfl (fun hc3 => ?_) (fun hc3 => ?_)
  ·replace h := ifT hc3 h
   refine Sv.seq ?_
   refine Sv.region ?_
   refine un (a1 rfl ?_)
   refine dnil ?_
   refine Sv.ret ?_
   replace h := Option.some.inj h
   subst h
   exact hr _ ⟨_, .refl _, _, rfl, ⟨upd (fun _ => none) 0 (some (B false)), (fun _ => none), 0⟩, (B false), weak_canon [] rfl List.nodup_nil (Nat.le_refl _) nlz (.cons rfl (avAs_free rfl) .nil) .nil, rfl, rfl, rfl, rfl⟩
  ·replace h := ifF hc3 h
   refine Sv.skip ?_
   refine Sv.region ?_
   refine un (a1 (v := (I (wi (v16 + 1)))) rfl ?_)
   refine un (a1 rfl ?_)
   refine dnil ?_
   exact hself (wi (v16 + 1)) h _ (weak_canon [0, 1] rfl (by decide) (by decide) nlz (.cons rfl (avAs_free rfl) (.cons rfl (avAs_free rfl) (.cons rfl (.c (.ref rfl (by decide))) (.cons rfl (.c (.ref rfl (by decide))) .nil)))) (.box (by decide) rfl (blkAs_cells (.cons (.same rfl) (.cons (.same rfl) (.cons (.same rfl) (.cons (.same rfl) (.cons (.same rfl) (.cons (.same rfl) (.cons (.same rfl) (.cons (.same rfl) .nil))))))))) (.box (by decide) rfl (blkAs_cells (.cons (.same rfl) (.cons (.same rfl) (.cons (.same rfl) (.cons (.same rfl) (.cons (.same rfl) (.cons (.same rfl) (.cons (.same rfl) (.cons (.same rfl) .nil))))))))) .nil)))
 ·replace h := ifF hc2 h
  refine Sv.exit ?_
  exact hK0 () h _ (weak_canon [0, 1] rfl (by decide) (by decide) nlz (.cons rfl (.c (.ref rfl (by decide))) (.cons rfl (.c (.ref rfl (by decide))) .nil)) (.box (by decide) rfl (blkAs_cells (.cons (.same rfl) (.cons (.same rfl) (.cons (.same rfl) (.cons (.same rfl) (.cons (.same rfl) (.cons (.same rfl) (.cons (.same rfl) (.cons (.same rfl) .nil))))))))) (.box (by decide) rfl (blkAs_cells (.cons (.same rfl) (.cons (.same rfl) (.cons (.same rfl) (.cons (.same rfl) (.cons (.same rfl) (.cons (.same rfl) (.cons (.same rfl) (.cons (.same rfl) .nil))))))))) .nil)))
/-- clerestory/clerestoryref4.SameUrl -/
noncomputable def r4_SameUrl (a_ : TJUrl) (b_ : TJUrl) : Option Bool :=
 if (!decide ((a_.Path.length : Int) = (b_.Path.length : Int))) then
  some false
 else
  lim fun kk => r4_SameUrl_l0 a_ b_ (fun (_ : Unit) => 
    some (((((((decide (a_.Scheme = b_.Scheme)) && (decide (a_.Host = b_.Host))) && (decide (a_.Port = b_.Port))) && (decide (a_.Query = b_.Query))) && ((a_.Asks == b_.Asks) && true)) && (decide (a_.Fragment = b_.Fragment))) && ((a_.Points == b_.Points) && true))) kk 0
theorem r4_SameUrl_ok {mL : Int} {a_ : TJUrl} {b_ : TJUrl} {r : Bool} (h : r4_SameUrl a_ b_ = some r) : CPure Tryz.prog (GG mL) 9 [(.agg [.str a_.Scheme, .str a_.Host, cI a_.Port, .ro false 1 (a_.Path.map eStr), .str a_.Query, cB a_.Asks, .str a_.Fragment, cB a_.Points]), (.agg [.str b_.Scheme, .str b_.Host, cI b_.Port, .ro false 1 (b_.Path.map eStr), .str b_.Query, cB b_.Asks, .str b_.Fragment, cB b_.Points])] (B r) := by
 refine acalls_of_sv hmix c9 (R := r4_SameUrl_post r) ?_
 unfold r4_SameUrl at h
 refine Sv.seq ?_
 refine Sv.region ?_
 refine un (a2v (v := (.c (.ref 0 8 0 0))) (h' := upd _ 0 (some (.cells 8 [[.str a_.Scheme, .str a_.Host, cI a_.Port, .ro false 1 (a_.Path.map eStr), .str a_.Query, cB a_.Asks, .str a_.Fragment, cB a_.Points]]))) (n' := 1) rfl rfl (fun h => by cases h) ?_)
 refine un (a2v (v := (.c (.ref 1 8 0 0))) (h' := upd _ 1 (some (.cells 8 [[.str b_.Scheme, .str b_.Host, cI b_.Port, .ro false 1 (b_.Path.map eStr), .str b_.Query, cB b_.Asks, .str b_.Fragment, cB b_.Points]]))) (n' := 2) rfl rfl (fun h => by cases h) ?_)
 refine un (a1 rfl ?_)
 refine dnil ?_
 refine Sv.seq ?_
 refine Sv.seq ?_
 refine Sv.region ?_
 refine un (a1 (v := (.c (.ref 0 8 0 3))) rfl ?_)
 refine un (a1 (v := (.c (.ro false 1 (a_.Path.map eStr)))) rfl ?_)
 refine un (a1 (v := (I (a_.Path.length : Int))) (s_len (e := eStr) (xs := a_.Path) rfl) ?_)
 refine un (a1 (v := (.c (.ref 1 8 0 3))) rfl ?_)
 refine un (a1 (v := (.c (.ro false 1 (b_.Path.map eStr)))) rfl ?_)
 refine un (a1 (v := (I (b_.Path.length : Int))) (s_len (e := eStr) (xs := b_.Path) rfl) ?_)
 refine un (a1 (v := (B (!decide ((a_.Path.length : Int) = (b_.Path.length : Int))))) rfl ?_)
 refine dnil ?_
 refine Sv.cond (b := (!decide ((a_.Path.length : Int) = (b_.Path.length : Int)))) rfl (fun hc1 => ?_) (fun hc1 => ?_)
 ·replace h := ifT hc1 h
  refine Sv.seq ?_
  refine Sv.region ?_
  refine un (a1 rfl ?_)
  refine dnil ?_
  refine Sv.ret ?_
  replace h := Option.some.inj h
  subst h
  exact ⟨_, .refl _, _, rfl, ⟨upd (fun _ => none) 0 (some (B false)), (fun _ => none), 0⟩, (B false), weak_canon [] rfl List.nodup_nil (Nat.le_refl _) nlz (.cons rfl (avAs_free rfl) .nil) .nil, rfl, rfl, rfl, rfl⟩
 ·replace h := ifF hc1 h
  refine Sv.skip ?_
  refine Sv.seq ?_
  refine Sv.seq ?_
  refine Sv.region ?_
  refine un (a1 (v := (.c (.ref 0 8 0 3))) rfl ?_)
  refine un (a1 (v := (.c (.ro false 1 (a_.Path.map eStr)))) rfl ?_)
  refine un (a1 (v := (I (a_.Path.length : Int))) (s_len (e := eStr) (xs := a_.Path) rfl) ?_)
  refine un (a1 rfl ?_)
  refine dnil ?_
  refine Sv.block ?_
  obtain ⟨kk, h⟩ := lim_some h
  refine Sv.weak (weak_canon [0, 1] rfl (by decide) (by decide) nlz (.cons rfl (avAs_free rfl) (.cons rfl (avAs_free rfl) (.cons rfl (.c (.ref rfl (by decide))) (.cons rfl (.c (.ref rfl (by decide))) .nil)))) (.box (by decide) rfl (blkAs_cells (.cons (.same rfl) (.cons (.same rfl) (.cons (.same rfl) (.cons (.same rfl) (.cons (.same rfl) (.cons (.same rfl) (.cons (.same rfl) (.cons (.same rfl) .nil))))))))) (.box (by decide) rfl (blkAs_cells (.cons (.same rfl) (.cons (.same rfl) (.cons (.same rfl) (.cons (.same rfl) (.cons (.same rfl) (.cons (.same rfl) (.cons (.same rfl) (.cons (.same rfl) .nil))))))))) .nil))) (r4_SameUrl_l0_ok h ?_ (fun s hs => hs))
  ·intro _ h _ hw1
   refine Sv.weak hw1 ?_
   refine Sv.seq ?_
   refine Sv.region ?_
   refine un (a1 (v := (.c (.ref 0 8 0 0))) rfl ?_)
   refine un (a1 (v := (S a_.Scheme)) rfl ?_)
   refine un (a1 (v := (.c (.ref 1 8 0 0))) rfl ?_)
   refine un (a1 (v := (S b_.Scheme)) rfl ?_)
   refine un (a1 (v := (B (decide (a_.Scheme = b_.Scheme)))) rfl ?_)
   refine un (a1 rfl ?_)
   refine gjoin 6 (d := 42) (v := (B ((decide (a_.Scheme = b_.Scheme)) && (decide (a_.Host = b_.Host))))) (fun X hX => ?_) ?_
   ·refine split2 (fun hc4 => ?_) (fun hc4 => ?_)
    ·refine gt rfl (a1 (v := (.c (.ref 0 8 0 1))) rfl ?_)
     refine gt rfl (a1 (v := (S a_.Host)) rfl ?_)
     refine gt rfl (a1 (v := (.c (.ref 1 8 0 1))) rfl ?_)
     refine gt rfl (a1 (v := (S b_.Host)) rfl ?_)
     refine gt rfl (a1 (v := (B (decide (a_.Host = b_.Host)))) rfl ?_)
     refine un (a1 (v := (B (decide (a_.Host = b_.Host)))) rfl ?_)
     refine dnil ?_
     exact hX _ (.putEq (by rw [hc4]; rfl) (.skip _ _ (.skip _ _ (.skip _ _ (.skip _ _ (.skip _ _ (.putEq (by rw [hc4]) (.refl _)) rfl) rfl) rfl) rfl) rfl))
    ·refine gs rfl rfl ?_
     refine gs rfl rfl ?_
     refine gs rfl rfl ?_
     refine gs rfl rfl ?_
     refine gs rfl rfl ?_
     refine un (a1 (v := (B false)) rfl ?_)
     refine dnil ?_
     exact hX _ (.putEq (by rw [hc4]; rfl) (.skip _ _ (.skip _ _ (.skip _ _ (.skip _ _ (.skip _ _ (.putEq (by rw [hc4]) (.refl _)) rfl) rfl) rfl) rfl) rfl))
   refine un (a1 rfl ?_)
   refine gjoin 6 (d := 49) (v := (B (((decide (a_.Scheme = b_.Scheme)) && (decide (a_.Host = b_.Host))) && (decide (a_.Port = b_.Port))))) (fun X hX => ?_) ?_
   ·refine split2 (fun hc5 => ?_) (fun hc5 => ?_)
    ·refine gt rfl (a1 (v := (.c (.ref 0 8 0 2))) rfl ?_)
     refine gt rfl (a1 (v := (I a_.Port)) rfl ?_)
     refine gt rfl (a1 (v := (.c (.ref 1 8 0 2))) rfl ?_)
     refine gt rfl (a1 (v := (I b_.Port)) rfl ?_)
     refine gt rfl (a1 (v := (B (decide (a_.Port = b_.Port)))) rfl ?_)
     refine un (a1 (v := (B (decide (a_.Port = b_.Port)))) rfl ?_)
     refine dnil ?_
     exact hX _ (.putEq (by rw [hc5]; rfl) (.skip _ _ (.skip _ _ (.skip _ _ (.skip _ _ (.skip _ _ (.putEq (by rw [hc5]) (.refl _)) rfl) rfl) rfl) rfl) rfl))
    ·refine gs rfl rfl ?_
     refine gs rfl rfl ?_
     refine gs rfl rfl ?_
     refine gs rfl rfl ?_
     refine gs rfl rfl ?_
     refine un (a1 (v := (B false)) rfl ?_)
     refine dnil ?_
     exact hX _ (.putEq (by rw [hc5]; rfl) (.skip _ _ (.skip _ _ (.skip _ _ (.skip _ _ (.skip _ _ (.putEq (by rw [hc5]) (.refl _)) rfl) rfl) rfl) rfl) rfl))
   refine un (a1 rfl ?_)
   refine gjoin 6 (d := 56) (v := (B ((((decide (a_.Scheme = b_.Scheme)) && (decide (a_.Host = b_.Host))) && (decide (a_.Port = b_.Port))) && (decide (a_.Query = b_.Query))))) (fun X hX => ?_) ?_
   ·refine split2 (fun hc6 => ?_) (fun hc6 => ?_)
    ·refine gt rfl (a1 (v := (.c (.ref 0 8 0 4))) rfl ?_)
     refine gt rfl (a1 (v := (S a_.Query)) rfl ?_)
     refine gt rfl (a1 (v := (.c (.ref 1 8 0 4))) rfl ?_)
     refine gt rfl (a1 (v := (S b_.Query)) rfl ?_)
     refine gt rfl (a1 (v := (B (decide (a_.Query = b_.Query)))) rfl ?_)
     refine un (a1 (v := (B (decide (a_.Query = b_.Query)))) rfl ?_)
     refine dnil ?_
     exact hX _ (.putEq (by rw [hc6]; rfl) (.skip _ _ (.skip _ _ (.skip _ _ (.skip _ _ (.skip _ _ (.putEq (by rw [hc6]) (.refl _)) rfl) rfl) rfl) rfl) rfl))
    ·refine gs rfl rfl ?_
     refine gs rfl rfl ?_
     refine gs rfl rfl ?_
     refine gs rfl rfl ?_
     refine gs rfl rfl ?_
     refine un (a1 (v := (B false)) rfl ?_)
     refine dnil ?_
     exact hX _ (.putEq (by rw [hc6]; rfl) (.skip _ _ (.skip _ _ (.skip _ _ (.skip _ _ (.skip _ _ (.putEq (by rw [hc6]) (.refl _)) rfl) rfl) rfl) rfl) rfl))
   refine un (a1 rfl ?_)
   refine gjoin 6 (d := 63) (v := (B (((((decide (a_.Scheme = b_.Scheme)) && (decide (a_.Host = b_.Host))) && (decide (a_.Port = b_.Port))) && (decide (a_.Query = b_.Query))) && ((a_.Asks == b_.Asks) && true)))) (fun X hX => ?_) ?_
   ·refine split2 (fun hc7 => ?_) (fun hc7 => ?_)
    ·refine gt rfl (a1 (v := (.c (.ref 0 8 0 5))) rfl ?_)
     refine gt rfl (a1 (v := (B a_.Asks)) rfl ?_)
     refine gt rfl (a1 (v := (.c (.ref 1 8 0 5))) rfl ?_)
     refine gt rfl (a1 (v := (B b_.Asks)) rfl ?_)
     refine gt rfl (a1 (v := (B ((a_.Asks == b_.Asks) && true))) rfl ?_)
     refine un (a1 (v := (B ((a_.Asks == b_.Asks) && true))) rfl ?_)
     refine dnil ?_
     exact hX _ (.putEq (by rw [hc7]; rfl) (.skip _ _ (.skip _ _ (.skip _ _ (.skip _ _ (.skip _ _ (.putEq (by rw [hc7]) (.refl _)) rfl) rfl) rfl) rfl) rfl))
    ·refine gs rfl rfl ?_
     refine gs rfl rfl ?_
     refine gs rfl rfl ?_
     refine gs rfl rfl ?_
     refine gs rfl rfl ?_
     refine un (a1 (v := (B false)) rfl ?_)
     refine dnil ?_
     exact hX _ (.putEq (by rw [hc7]; rfl) (.skip _ _ (.skip _ _ (.skip _ _ (.skip _ _ (.skip _ _ (.putEq (by rw [hc7]) (.refl _)) rfl) rfl) rfl) rfl) rfl))
   refine un (a1 rfl ?_)
   refine gjoin 6 (d := 70) (v := (B ((((((decide (a_.Scheme = b_.Scheme)) && (decide (a_.Host = b_.Host))) && (decide (a_.Port = b_.Port))) && (decide (a_.Query = b_.Query))) && ((a_.Asks == b_.Asks) && true)) && (decide (a_.Fragment = b_.Fragment))))) (fun X hX => ?_) ?_
   ·refine split2 (fun hc8 => ?_) (fun hc8 => ?_)
    ·refine gt rfl (a1 (v := (.c (.ref 0 8 0 6))) rfl ?_)
     refine gt rfl (a1 (v := (S a_.Fragment)) rfl ?_)
     refine gt rfl (a1 (v := (.c (.ref 1 8 0 6))) rfl ?_)
     refine gt rfl (a1 (v := (S b_.Fragment)) rfl ?_)
     refine gt rfl (a1 (v := (B (decide (a_.Fragment = b_.Fragment)))) rfl ?_)
     refine un (a1 (v := (B (decide (a_.Fragment = b_.Fragment)))) rfl ?_)
     refine dnil ?_
     exact hX _ (.putEq (by rw [hc8]; rfl) (.skip _ _ (.skip _ _ (.skip _ _ (.skip _ _ (.skip _ _ (.putEq (by rw [hc8]) (.refl _)) rfl) rfl) rfl) rfl) rfl))
    ·refine gs rfl rfl ?_
     refine gs rfl rfl ?_
     refine gs rfl rfl ?_
     refine gs rfl rfl ?_
     refine gs rfl rfl ?_
     refine un (a1 (v := (B false)) rfl ?_)
     refine dnil ?_
     exact hX _ (.putEq (by rw [hc8]; rfl) (.skip _ _ (.skip _ _ (.skip _ _ (.skip _ _ (.skip _ _ (.putEq (by rw [hc8]) (.refl _)) rfl) rfl) rfl) rfl) rfl))
   refine un (a1 rfl ?_)
   refine gjoin 6 (d := 77) (v := (B (((((((decide (a_.Scheme = b_.Scheme)) && (decide (a_.Host = b_.Host))) && (decide (a_.Port = b_.Port))) && (decide (a_.Query = b_.Query))) && ((a_.Asks == b_.Asks) && true)) && (decide (a_.Fragment = b_.Fragment))) && ((a_.Points == b_.Points) && true)))) (fun X hX => ?_) ?_
   ·refine split2 (fun hc9 => ?_) (fun hc9 => ?_)
    ·refine gt rfl (a1 (v := (.c (.ref 0 8 0 7))) rfl ?_)
     refine gt rfl (a1 (v := (B a_.Points)) rfl ?_)
     refine gt rfl (a1 (v := (.c (.ref 1 8 0 7))) rfl ?_)
     refine gt rfl (a1 (v := (B b_.Points)) rfl ?_)
     refine gt rfl (a1 (v := (B ((a_.Points == b_.Points) && true))) rfl ?_)
     refine un (a1 (v := (B ((a_.Points == b_.Points) && true))) rfl ?_)
     refine dnil ?_
     exact hX _ (.putEq (by rw [hc9]; rfl) (.skip _ _ (.skip _ _ (.skip _ _ (.skip _ _ (.skip _ _ (.putEq (by rw [hc9]) (.refl _)) rfl) rfl) rfl) rfl) rfl))
    ·refine gs rfl rfl ?_
     refine gs rfl rfl ?_
     refine gs rfl rfl ?_
     refine gs rfl rfl ?_
     refine gs rfl rfl ?_
     refine un (a1 (v := (B false)) rfl ?_)
     refine dnil ?_
     exact hX _ (.putEq (by rw [hc9]; rfl) (.skip _ _ (.skip _ _ (.skip _ _ (.skip _ _ (.skip _ _ (.putEq (by rw [hc9]) (.refl _)) rfl) rfl) rfl) rfl) rfl))
   refine un (a1 rfl ?_)
   refine dnil ?_
   refine Sv.ret ?_
   replace h := Option.some.inj h
   subst h
   exact ⟨_, .refl _, _, rfl, ⟨upd (fun _ => none) 0 (some (B (((((((decide (a_.Scheme = b_.Scheme)) && (decide (a_.Host = b_.Host))) && (decide (a_.Port = b_.Port))) && (decide (a_.Query = b_.Query))) && ((a_.Asks == b_.Asks) && true)) && (decide (a_.Fragment = b_.Fragment))) && ((a_.Points == b_.Points) && true)))), (fun _ => none), 0⟩, (B (((((((decide (a_.Scheme = b_.Scheme)) && (decide (a_.Host = b_.Host))) && (decide (a_.Port = b_.Port))) && (decide (a_.Query = b_.Query))) && ((a_.Asks == b_.Asks) && true)) && (decide (a_.Fragment = b_.Fragment))) && ((a_.Points == b_.Points) && true))), weak_canon [] rfl List.nodup_nil (Nat.le_refl _) nlz (.cons rfl (avAs_free rfl) .nil) .nil, rfl, rfl, rfl, rfl⟩
def a10_c0 : ACode := (.seq (.region [(mV 19 3), (mV 2 19)])
 .ret)
def a10 : AFunc := ⟨1, [(.tmp 2)], (.seq (.region [(oP 1 (.box (.tmp 0))), ⟨(some 2), (.mov (.const (.c (.str [])))), none⟩])
 (.seq (.region [(oP 4 (.faddr 0 (.tmp 1))), (oP 5 (.load false 1 (.tmp 4))), ⟨(some 6), (.bin .add (.tmp 5) (.const (.c (.str [58, 47, 47])))), none⟩, (oP 7 (.faddr 1 (.tmp 1))), (oP 8 (.load false 1 (.tmp 7))), (oP 9 (.bin .add (.tmp 6) (.tmp 8))), (mV 3 9)])
 (.seq (.seq (.region [(oP 10 (.faddr 2 (.tmp 1))), (oP 11 (.load false 1 (.tmp 10))), ⟨(some 12), (.bin .neq (.tmp 11) (kI 0)), none⟩])
 (.cond (.tmp 12) (.region [(mV 13 3), (oP 14 (.faddr 2 (.tmp 1))), (oP 15 (.load false 1 (.tmp 14))), (oP 16 (.call 36 [(.tmp 15)])), ⟨(some 17), (.bin .add (.const (.c (.str [58]))) (.tmp 16)), none⟩, (oP 18 (.bin .add (.tmp 13) (.tmp 17))), (mV 3 18)]) .skip))
 a10_c0)))⟩
set_option maxRecDepth 100000 in
theorem c10 : compFunc Tryz.prog 10 = some a10 := by kernel_rfl
def r4_OriginOf_post (r : (List UInt8)) : AV → Heap → Nat → Prop := fun v h' n' => v = (S r) ∧ (h' = (fun _ => none)) ∧ n' = 0
noncomputable def r4_OriginOf_j1 (out : (List UInt8)) : Option (List UInt8) :=
 some out
theorem r4_OriginOf_j1_ok {mL : Int} {out : (List UInt8)} {o : (List UInt8)} (h : r4_OriginOf_j1 out = some o) :
  Sv Tryz.prog (GG mL) 0 a10_c0 (Ends a10.results 0 (r4_OriginOf_post o)) ⟨(upd (fun _ => none) 3 (some (S out))), (fun _ => none), 0⟩ := by
 unfold r4_OriginOf_j1 at h
 refine Sv.seq ?_
 refine Sv.region ?_
 refine un (a1 rfl ?_)
 refine un (a1 rfl ?_)
 refine dnil ?_
 refine Sv.ret ?_
 replace h := Option.some.inj h
 subst h
 exact ⟨_, .refl _, _, rfl, ⟨upd (fun _ => none) 0 (some (S out)), (fun _ => none), 0⟩, (S out), weak_canon [] rfl List.nodup_nil (Nat.le_refl _) nlz (.cons rfl (avAs_free rfl) .nil) .nil, rfl, rfl, rfl, rfl⟩
/-- clerestory/clerestoryref4.OriginOf -/
noncomputable def r4_OriginOf (u_ : TJUrl) : Option (List UInt8) :=
 (cat? u_.Scheme [58, 47, 47]).bind fun r_ =>
 (cat? r_ u_.Host).bind fun r_1 =>
 if (!decide (u_.Port = 0)) then
  (strconv_Itoa u_.Port).bind fun r_2 =>
  (cat? [58] r_2).bind fun r_3 =>
  (cat? r_1 r_3).bind fun r_4 =>
  r4_OriginOf_j1 r_4
 else
  r4_OriginOf_j1 r_1
theorem r4_OriginOf_ok {mL : Int} {u_ : TJUrl} {r : (List UInt8)} (h : r4_OriginOf u_ = some r) : CPure Tryz.prog (GG mL) 10 [(.agg [.str u_.Scheme, .str u_.Host, cI u_.Port, .ro false 1 (u_.Path.map eStr), .str u_.Query, cB u_.Asks, .str u_.Fragment, cB u_.Points])] (S r) := by
 refine acalls_of_sv hmix c10 (R := r4_OriginOf_post r) ?_
 unfold r4_OriginOf at h
 refine Sv.seq ?_
 refine Sv.region ?_
 refine un (a2v (v := (.c (.ref 0 8 0 0))) (h' := upd _ 0 (some (.cells 8 [[.str u_.Scheme, .str u_.Host, cI u_.Port, .ro false 1 (u_.Path.map eStr), .str u_.Query, cB u_.Asks, .str u_.Fragment, cB u_.Points]]))) (n' := 1) rfl rfl (fun h => by cases h) ?_)
 refine un (a1 rfl ?_)
 refine dnil ?_
 refine Sv.seq ?_
 refine Sv.region ?_
 refine un (a1 (v := (.c (.ref 0 8 0 0))) rfl ?_)
 refine un (a1 (v := (S u_.Scheme)) rfl ?_)
 obtain ⟨r_, hx1, h⟩ := bnd h
 refine un (a1 (v := (S r_)) (s_cat rfl rfl hx1) ?_)
 refine un (a1 (v := (.c (.ref 0 8 0 1))) rfl ?_)
 refine un (a1 (v := (S u_.Host)) rfl ?_)
 obtain ⟨r_1, hx2, h⟩ := bnd h
 refine un (a1 (v := (S r_1)) (s_cat rfl rfl hx2) ?_)
 refine un (a1 rfl ?_)
 refine dnil ?_
 refine Sv.seq ?_
 refine Sv.seq ?_
 refine Sv.region ?_
 refine un (a1 (v := (.c (.ref 0 8 0 2))) rfl ?_)
 refine un (a1 (v := (I u_.Port)) rfl ?_)
 refine un (a1 (v := (B (!decide (u_.Port = 0)))) rfl ?_)
 refine dnil ?_
 refine Sv.cond (b := (!decide (u_.Port = 0))) rfl (fun hc1 => ?_) (fun hc1 => ?_)
 ·replace h := ifT hc1 h
  refine Sv.region ?_
  refine un (a1 rfl ?_)
  refine un (a1 (v := (.c (.ref 0 8 0 2))) rfl ?_)
  refine un (a1 (v := (I u_.Port)) rfl ?_)
  obtain ⟨r_2, hr1, h⟩ := bnd h
  refine un (ac_pure (strconv_Itoa_ok hr1) rfl rfl rfl ?_)
  obtain ⟨r_3, hx3, h⟩ := bnd h
  refine un (a1 (v := (S r_3)) (s_cat rfl rfl hx3) ?_)
  obtain ⟨r_4, hx4, h⟩ := bnd h
  refine un (a1 (v := (S r_4)) (s_cat rfl rfl hx4) ?_)
  refine un (a1 rfl ?_)
  refine dnil ?_
  exact Sv.weak (weak_canon [] rfl (by decide) (by decide) nlz (.cons rfl (avAs_free rfl) .nil) .nil) (r4_OriginOf_j1_ok h)
 ·replace h := ifF hc1 h
  refine Sv.skip ?_
  exact Sv.weak (weak_canon [] rfl (by decide) (by decide) nlz (.cons rfl (avAs_free rfl) .nil) .nil) (r4_OriginOf_j1_ok h)
def a3_c0 : ACode := .ret
def a3 : AFunc := ⟨1, [(.tmp 2)], (.seq (.region [⟨(some 2), (.mov (.const (.c (.val (.bool false))))), none⟩])
 (.seq (.region [(mV 10 0), (oP 11 (.call 6 [(.tmp 10)])), (mV 9 11), (oP 12 (.ext (.tmp 9) 0)), (oP 13 (.ext (.tmp 9) 1)), ⟨(some 3), (.box (.const (.agg [(.str []), (.str []), (.val (.int .i64 0)), (.ro true 1 []), (.str []), (.val (.bool false)), (.str []), (.val (.bool false))]))), none⟩, ⟨none, (.store 8 (.tmp 3) (.tmp 12)), none⟩, (mV 4 13)])
 (.seq (.region [(mV 15 0), (oP 16 (.call 7 [(.tmp 15)])), (mV 14 16), (oP 17 (.ext (.tmp 14) 0)), (oP 18 (.ext (.tmp 14) 1)), (mV 5 17), (mV 6 18)])
 (.seq (.region [(mV 20 0), (oP 21 (.call 8 [(.tmp 20)])), (mV 19 21), (oP 22 (.ext (.tmp 19) 0)), (oP 23 (.ext (.tmp 19) 1)), ⟨(some 7), (.box (.const (.agg [(.str []), (.str []), (.val (.int .i64 0)), (.ro true 1 []), (.str []), (.val (.bool false)), (.str []), (.val (.bool false))]))), none⟩, ⟨none, (.store 8 (.tmp 7) (.tmp 22)), none⟩, (mV 8 23)])
 (.seq (.seq (.region [(oP 24 (.load true 8 (.tmp 3))), (oP 25 (.load true 8 (.tmp 7))), (oP 26 (.call 9 [(.tmp 24), (.tmp 25)])), (oP 27 (.un .not (.tmp 26))), (mV 28 27), ⟨(some 29), (.mov (.tmp 4)), (some (28, false))⟩, ⟨(some 30), (.mov (.tmp 8)), (some (28, false))⟩, ⟨(some 31), (.bin .neq (.tmp 29) (.tmp 30)), (some (28, false))⟩, ⟨(some 32), (.pick (.tmp 28) (.const (.c (.val (.bool true)))) (.tmp 31)), none⟩, (mV 33 32), ⟨(some 34), (.mov (.tmp 6)), (some (33, false))⟩, ⟨(some 35), (.mov (.tmp 8)), (some (33, false))⟩, ⟨(some 36), (.bin .neq (.tmp 34) (.tmp 35)), (some (33, false))⟩, ⟨(some 37), (.pick (.tmp 33) (.const (.c (.val (.bool true)))) (.tmp 36)), none⟩])
 (.cond (.tmp 37) (.seq (.region [⟨(some 2), (.mov (.const (.c (.val (.bool false))))), none⟩])
 .ret) .skip))
 (.seq (.region [(mV 38 8), ⟨(some 39), (.bin .neq (.tmp 38) (kI 0)), none⟩, (mV 40 39), ⟨(some 41), (.mov (.tmp 5)), (some (40, true))⟩, ⟨(some 42), (.bin .eql (.tmp 41) (.const (.c (.str [])))), (some (40, true))⟩, ⟨(some 43), (.pick (.tmp 40) (.tmp 42) (.const (.c (.val (.bool false))))), none⟩, (mV 44 43), ⟨(some 45), (.mov (.tmp 8)), (some (44, false))⟩, ⟨(some 46), (.bin .eql (.tmp 45) (kI 0)), (some (44, false))⟩, ⟨(some 47), (.mov (.tmp 46)), (some (44, false))⟩, ⟨(some 48), (.mov (.tmp 5)), (some (47, true))⟩, ⟨(some 49), (.load true 8 (.tmp 7)), (some (47, true))⟩, ⟨(some 50), (.call 10 [(.tmp 49)]), (some (47, true))⟩, ⟨(some 51), (.bin .eql (.tmp 48) (.tmp 50)), (some (47, true))⟩, ⟨(some 52), (.pick (.tmp 47) (.tmp 51) (.const (.c (.val (.bool false))))), (some (44, false))⟩, ⟨(some 53), (.pick (.tmp 44) (.const (.c (.val (.bool true)))) (.tmp 52)), none⟩, (mV 2 53)])
 a3_c0))))))⟩
set_option maxRecDepth 100000 in
theorem c3 : compFunc Tryz.prog 3 = some a3 := by kernel_rfl
def l4_UrlParses_post (r : Bool) : AV → Heap → Nat → Prop := fun v h' n' => v = (B r) ∧ (h' = (fun _ => none)) ∧ n' = 0
noncomputable def l4_UrlParses_j1 (v2 : Bool) : Option Bool :=
 some v2
theorem l4_UrlParses_j1_ok {mL : Int} {v2 : Bool} {o : Bool} (h : l4_UrlParses_j1 v2 = some o) :
  Sv Tryz.prog (GG mL) 0 a3_c0 (Ends a3.results 0 (l4_UrlParses_post o)) ⟨(upd (fun _ => none) 2 (some (B v2))), (fun _ => none), 0⟩ := by
 unfold l4_UrlParses_j1 at h
 refine Sv.ret ?_
 replace h := Option.some.inj h
 subst h
 exact ⟨_, .refl _, _, rfl, ⟨upd (fun _ => none) 0 (some (B v2)), (fun _ => none), 0⟩, (B v2), weak_canon [] rfl List.nodup_nil (Nat.le_refl _) nlz (.cons rfl (avAs_free rfl) .nil) .nil, rfl, rfl, rfl, rfl⟩
/-- clerestory/clerestorylaw4.UrlParses -/
noncomputable def l4_UrlParses (s_ : (List UInt8)) : Option Bool :=
 (url_Parse s_).bind fun r_ =>
 (url_Origin s_).bind fun r_1 =>
 (r4_Addressed s_).bind fun r_2 =>
 (r4_SameUrl r_.1 r_2.1).bind fun r_3 =>
 if (((!r_3) || (!decide (r_.2 = r_2.2))) || (!decide (r_1.2 = r_2.2))) then
  some false
 else
  if ((!decide (r_2.2 = 0)) && (decide (r_1.1 = []))) then
   l4_UrlParses_j1 true
  else
   if decide (r_2.2 = 0) then
    (r4_OriginOf r_2.1).bind fun r_4 =>
    l4_UrlParses_j1 (decide (r_1.1 = r_4))
   else
    l4_UrlParses_j1 false
theorem l4_UrlParses_ok {mL : Int} {s_ : (List UInt8)} {r : Bool} (h : l4_UrlParses s_ = some r) : CPure Tryz.prog (GG mL) 3 [(S s_)] (B r) := by
 refine acalls_of_sv hmix c3 (R := l4_UrlParses_post r) ?_
 unfold l4_UrlParses at h
 refine Sv.seq ?_
 refine Sv.region ?_
 refine un (a1 rfl ?_)
 refine dnil ?_
 refine Sv.seq ?_
 refine Sv.region ?_
 refine un (a1 rfl ?_)
 obtain ⟨r_, hr1, h⟩ := bnd h
 refine un (ac_pure (url_Parse_ok hr1) rfl rfl rfl ?_)
 refine un (a1 rfl ?_)
 refine un (a1 (v := (.agg [.str r_.1.Scheme, .str r_.1.Host, cI r_.1.Port, .ro false 1 (r_.1.Path.map eStr), .str r_.1.Query, cB r_.1.Asks, .str r_.1.Fragment, cB r_.1.Points])) rfl ?_)
 refine un (a1 (v := (I r_.2)) rfl ?_)
 refine un (a2v (v := (.c (.ref 0 8 0 0))) (h' := upd _ 0 (some (.cells 8 [[.str [], .str [], cI 0, .ro true 1 [], .str [], cB false, .str [], cB false]]))) (n' := 1) rfl rfl (fun h => by cases h) ?_)
 refine un (a2n (h' := upd _ 0 (some (.cells 8 [[.str r_.1.Scheme, .str r_.1.Host, cI r_.1.Port, .ro false 1 (r_.1.Path.map eStr), .str r_.1.Query, cB r_.1.Asks, .str r_.1.Fragment, cB r_.1.Points]]))) (n' := 1) rfl rfl (fun h => by cases h) ?_)
 refine un (a1 rfl ?_)
 refine dnil ?_
 refine Sv.seq ?_
 refine Sv.region ?_
 refine un (a1 rfl ?_)
 obtain ⟨r_1, hr2, h⟩ := bnd h
 refine un (ac_pure (url_Origin_ok hr2) rfl rfl rfl ?_)
 refine un (a1 rfl ?_)
 refine un (a1 (v := (S r_1.1)) rfl ?_)
 refine un (a1 (v := (I r_1.2)) rfl ?_)
 refine un (a1 rfl ?_)
 refine un (a1 rfl ?_)
 refine dnil ?_
 refine Sv.seq ?_
 refine Sv.region ?_
 refine un (a1 rfl ?_)
 obtain ⟨r_2, hr3, h⟩ := bnd h
 refine un (ac_pure (r4_Addressed_ok hr3) rfl rfl rfl ?_)
 refine un (a1 rfl ?_)
 refine un (a1 (v := (.agg [.str r_2.1.Scheme, .str r_2.1.Host, cI r_2.1.Port, .ro false 1 (r_2.1.Path.map eStr), .str r_2.1.Query, cB r_2.1.Asks, .str r_2.1.Fragment, cB r_2.1.Points])) rfl ?_)
 refine un (a1 (v := (I r_2.2)) rfl ?_)
 refine un (a2v (v := (.c (.ref 1 8 0 0))) (h' := upd _ 1 (some (.cells 8 [[.str [], .str [], cI 0, .ro true 1 [], .str [], cB false, .str [], cB false]]))) (n' := 2) rfl rfl (fun h => by cases h) ?_)
 refine un (a2n (h' := upd _ 1 (some (.cells 8 [[.str r_2.1.Scheme, .str r_2.1.Host, cI r_2.1.Port, .ro false 1 (r_2.1.Path.map eStr), .str r_2.1.Query, cB r_2.1.Asks, .str r_2.1.Fragment, cB r_2.1.Points]]))) (n' := 2) rfl rfl (fun h => by cases h) ?_)
 refine un (a1 rfl ?_)
 refine dnil ?_
 refine Sv.seq ?_
 refine Sv.seq ?_
 refine Sv.region ?_
 refine un (a1 (v := (.agg [.str r_.1.Scheme, .str r_.1.Host, cI r_.1.Port, .ro false 1 (r_.1.Path.map eStr), .str r_.1.Query, cB r_.1.Asks, .str r_.1.Fragment, cB r_.1.Points])) rfl ?_)
 refine un (a1 (v := (.agg [.str r_2.1.Scheme, .str r_2.1.Host, cI r_2.1.Port, .ro false 1 (r_2.1.Path.map eStr), .str r_2.1.Query, cB r_2.1.Asks, .str r_2.1.Fragment, cB r_2.1.Points])) rfl ?_)
 obtain ⟨r_3, hr4, h⟩ := bnd h
 refine un (ac_pure (r4_SameUrl_ok hr4) rfl rfl rfl ?_)
 refine un (a1 (v := (B (!r_3))) rfl ?_)
 refine un (a1 rfl ?_)
 refine gjoin 4 (d := 32) (v := (B ((!r_3) || (!decide (r_.2 = r_2.2))))) (fun X hX => ?_) ?_
 ·refine split2 (fun hc1 => ?_) (fun hc1 => ?_)
  ·refine gs rfl rfl ?_
   refine gs rfl rfl ?_
   refine gs rfl rfl ?_
   refine un (a1 (v := (B true)) rfl ?_)
   refine dnil ?_
   exact hX _ (.putEq (by rw [hc1]; rfl) (.skip _ _ (.skip _ _ (.skip _ _ (.putEq (by rw [hc1]) (.refl _)) rfl) rfl) rfl))
  ·refine gt rfl (a1 rfl ?_)
   refine gt rfl (a1 rfl ?_)
   refine gt rfl (a1 (v := (B (!decide (r_.2 = r_2.2)))) rfl ?_)
   refine un (a1 (v := (B (!decide (r_.2 = r_2.2)))) rfl ?_)
   refine dnil ?_
   exact hX _ (.putEq (by rw [hc1]; rfl) (.skip _ _ (.skip _ _ (.skip _ _ (.putEq (by rw [hc1]) (.refl _)) rfl) rfl) rfl))
 refine un (a1 rfl ?_)
 refine gjoin 4 (d := 37) (v := (B (((!r_3) || (!decide (r_.2 = r_2.2))) || (!decide (r_1.2 = r_2.2))))) (fun X hX => ?_) ?_
 ·refine split2 (fun hc2 => ?_) (fun hc2 => ?_)
  ·refine gs rfl rfl ?_
   refine gs rfl rfl ?_
   refine gs rfl rfl ?_
   refine un (a1 (v := (B true)) rfl ?_)
   refine dnil ?_
   exact hX _ (.putEq (by rw [hc2]; rfl) (.skip _ _ (.skip _ _ (.skip _ _ (.putEq (by rw [hc2]) (.refl _)) rfl) rfl) rfl))
  ·refine gt rfl (a1 rfl ?_)
   refine gt rfl (a1 rfl ?_)
   refine gt rfl (a1 (v := (B (!decide (r_1.2 = r_2.2)))) rfl ?_)
   refine un (a1 (v := (B (!decide (r_1.2 = r_2.2)))) rfl ?_)
   refine dnil ?_
   exact hX _ (.putEq (by rw [hc2]; rfl) (.skip _ _ (.skip _ _ (.skip _ _ (.putEq (by rw [hc2]) (.refl _)) rfl) rfl) rfl))
 refine dnil ?_
 refine Sv.cond (b := (((!r_3) || (!decide (r_.2 = r_2.2))) || (!decide (r_1.2 = r_2.2)))) rfl (fun hc3 => ?_) (fun hc3 => ?_)
 ·replace h := ifT hc3 h
  refine Sv.seq ?_
  refine Sv.region ?_
  refine un (a1 rfl ?_)
  refine dnil ?_
  refine Sv.ret ?_
  replace h := Option.some.inj h
  subst h
  exact ⟨_, .refl _, _, rfl, ⟨upd (fun _ => none) 0 (some (B false)), (fun _ => none), 0⟩, (B false), weak_canon [] rfl List.nodup_nil (Nat.le_refl _) nlz (.cons rfl (avAs_free rfl) .nil) .nil, rfl, rfl, rfl, rfl⟩
 ·replace h := ifF hc3 h
  refine Sv.skip ?_
  refine Sv.seq ?_
  refine Sv.region ?_
  refine un (a1 rfl ?_)
  refine un (a1 (v := (B (!decide (r_2.2 = 0)))) rfl ?_)
  refine un (a1 rfl ?_)
  refine gjoin 3 (d := 43) (v := (B ((!decide (r_2.2 = 0)) && (decide (r_1.1 = []))))) (fun X hX => ?_) ?_
  ·refine split2 (fun hc4 => ?_) (fun hc4 => ?_)
   ·refine gt rfl (a1 rfl ?_)
    refine gt rfl (a1 (v := (B (decide (r_1.1 = [])))) rfl ?_)
    refine un (a1 (v := (B (decide (r_1.1 = [])))) rfl ?_)
    refine dnil ?_
    exact hX _ (.putEq (by rw [hc4]; rfl) (.skip _ _ (.skip _ _ (.putEq (by rw [hc4]) (.refl _)) rfl) rfl))
   ·refine gs rfl rfl ?_
    refine gs rfl rfl ?_
    refine un (a1 (v := (B false)) rfl ?_)
    refine dnil ?_
    exact hX _ (.putEq (by rw [hc4]; rfl) (.skip _ _ (.skip _ _ (.putEq (by rw [hc4]) (.refl _)) rfl) rfl))
  refine un (a1 rfl ?_)
  refine split2 (fun hc5 => ?_) (fun hc5 => ?_)
  ·replace h := ifT hc5 h
   refine gs rfl rfl ?_
   refine gs rfl rfl ?_
   refine gs rfl rfl ?_
   refine gu rfl ?_
   refine gu rfl ?_
   refine gu rfl ?_
   refine gu rfl ?_
   refine gs rfl rfl ?_
   refine un (a1 (v := (B true)) rfl ?_)
   refine un (a1 rfl ?_)
   refine dnil ?_
   exact Sv.weak (weak_canon [] rfl (by decide) (by decide) nlz (.cons rfl (avAs_free rfl) .nil) .nil) (l4_UrlParses_j1_ok h)
  ·replace h := ifF hc5 h
   refine gt rfl (a1 rfl ?_)
   refine gt rfl (a1 (v := (B (decide (r_2.2 = 0)))) rfl ?_)
   refine gt rfl (a1 rfl ?_)
   refine split2 (fun hc6 => ?_) (fun hc6 => ?_)
   ·replace h := ifT hc6 h
    refine gt rfl (a1 rfl ?_)
    refine gt rfl (a1 (v := (.agg [.str r_2.1.Scheme, .str r_2.1.Host, cI r_2.1.Port, .ro false 1 (r_2.1.Path.map eStr), .str r_2.1.Query, cB r_2.1.Asks, .str r_2.1.Fragment, cB r_2.1.Points])) rfl ?_)
    obtain ⟨r_4, hr5, h⟩ := bnd h
    refine gt rfl (ac_pure (r4_OriginOf_ok hr5) rfl rfl rfl ?_)
    refine gt rfl (a1 (v := (B (decide (r_1.1 = r_4)))) rfl ?_)
    refine gt rfl (a1 (v := (B (decide (r_1.1 = r_4)))) rfl ?_)
    refine un (a1 (v := (B (decide (r_1.1 = r_4)))) rfl ?_)
    refine un (a1 rfl ?_)
    refine dnil ?_
    exact Sv.weak (weak_canon [] rfl (by decide) (by decide) nlz (.cons rfl (avAs_free rfl) .nil) .nil) (l4_UrlParses_j1_ok h)
   ·replace h := ifF hc6 h
    refine gs rfl rfl ?_
    refine gs rfl rfl ?_
    refine gs rfl rfl ?_
    refine gs rfl rfl ?_
    refine gt rfl (a1 (v := (B false)) rfl ?_)
    refine un (a1 (v := (B false)) rfl ?_)
    refine un (a1 rfl ?_)
    refine dnil ?_
    exact Sv.weak (weak_canon [] rfl (by decide) (by decide) nlz (.cons rfl (avAs_free rfl) .nil) .nil) (l4_UrlParses_j1_ok h)
end Go.Proofs.YtjicgjhhiallkaaGreatDoorBv
-- squeezed
