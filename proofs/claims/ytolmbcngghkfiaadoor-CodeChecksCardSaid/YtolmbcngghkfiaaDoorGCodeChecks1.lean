/- Printed by a program of mine (bgen.py): plain functions, and the walks that show that the code comes to what they answer. -/
import Derived.Test.YtolmbcngghkfiaaDoorGCodeChecks0
namespace Go.Proofs.YtolmbcngghkfiaaDoorBv
open Go
set_option linter.unusedVariables false
set_option linter.unusedSimpArgs false
set_option maxRecDepth 100000
def a6_c0 : ACode := (.seq (sr [(mV 10 0), (oP 11 (.nilc (.tmp 10))), (oP 12 (.faddr 9 (.tmp 11))), (oP 13 (.load false 1 (.tmp 12))), (oP 14 (.len (.tmp 13))), (oP 15 (.bin .gtr (.tmp 14) (kI 0))), (mV 16 15), ⟨(some 17), (.mov (.tmp 0)), (some (16, true))⟩, ⟨(some 18), (.nilc (.tmp 17)), (some (16, true))⟩, ⟨(some 19), (.faddr 10 (.tmp 18)), (some (16, true))⟩, ⟨(some 20), (.load false 1 (.tmp 19)), (some (16, true))⟩, ⟨(some 21), (.un .not (.tmp 20)), (some (16, true))⟩, (oP 22 (.pick (.tmp 16) (.tmp 21) kF))]
 (.cond (.tmp 22) .skip (.exit 0)))
 (.block 1 (.seq (.drawn (.fin [((mV 23 0), (0, 0)), ((oP 24 (.nilc (.tmp 23))), (0, 1)), ((oP 25 (.faddr 9 (.tmp 24))), (0, 2)), ((oP 26 (.load false 1 (.tmp 25))), (0, 3)), ((mV 27 0), (0, 4)), ((oP 28 (.nilc (.tmp 27))), (0, 5)), ((oP 29 (.faddr 9 (.tmp 28))), (0, 6)), ((oP 30 (.load false 1 (.tmp 29))), (0, 7)), ((oP 31 (.len (.tmp 30))), (0, 8)), ((oP 32 (.bin .sub (.tmp 31) (kI 1))), (0, 9)), ((oP 33 (.iaddr 1 (.tmp 26) (.tmp 32))), (0, 10)), ((oP 34 (.load false 1 (.tmp 33))), (0, 11)), ((mV 3 34), (0, 12))]))
 (.seq (.drawn (.fin [((mV 35 0), (0, 0)), ((mV 36 0), (0, 1)), ((oP 37 (.nilc (.tmp 36))), (0, 2)), ((oP 38 (.faddr 9 (.tmp 37))), (0, 3)), ((oP 39 (.load false 1 (.tmp 38))), (0, 4)), ((mV 40 0), (0, 5)), ((oP 41 (.nilc (.tmp 40))), (0, 6)), ((oP 42 (.faddr 9 (.tmp 41))), (0, 7)), ((oP 43 (.load false 1 (.tmp 42))), (0, 8)), ((oP 44 (.len (.tmp 43))), (0, 9)), ((oP 45 (.bin .sub (.tmp 44) (kI 1))), (0, 10)), ((oP 46 (.slSl 1 (.tmp 39) none (some (.tmp 45)) none)), (0, 11)), ((oP 47 (.nilc (.tmp 35))), (0, 12)), ((oP 48 (.faddr 9 (.tmp 47))), (0, 13)), ((oN (.store 1 (.tmp 48) (.tmp 46))), (2, 14))]))
 (.region [(mV 49 0), (mV 50 3), (oP 51 (.call 10 [(.tmp 49), (.tmp 50)]))])))))
def a6 : AFunc := ⟨1, [(.tmp 2)], (sr [(oP 2 (.mov kF))]
 (.seq (sr [(mV 4 0), (oP 5 (.call 8 [(.tmp 4)])), (oP 6 (.un .not (.tmp 5)))]
 (.cond (.tmp 6) (sr [(oP 2 (.mov kF))]
 .ret) .skip))
 (sr [(mV 7 0), (oP 8 (.build [(.val (.int .i64 0)), (.ro true 1 [])] [])), (oP 9 (.call 9 [(.tmp 7), (kI 0), (.tmp 8)]))]
 (.seq (.block 0 (.loop a6_c0))
 (sr [(mV 52 0), (oP 53 (.nilc (.tmp 52))), (oP 54 (.faddr 10 (.tmp 53))), (oP 55 (.load false 1 (.tmp 54))), (oP 56 (.un .not (.tmp 55))), (mV 2 56)]
 .ret)))))⟩
theorem c6 : compFunc Tryd.prog 6 = some a6 := by kernel_rfl
def Z2i (r : (Bool × Tchecker)) : AV → Heap → Nat → Prop := fun v h' n' => ∃ z0 : Bool, (z0 = true → r.2.f_todo = []) ∧ v = (B r.1) ∧ (h' = (upd (upd (upd e0 0 (some (.cells 11 [[.ro false 4 (r.2.f_p.Funcs.map e_TJFunc), .ro false 3 (r.2.f_p.Consts.map e_TJVal), .ro false 1 (r.2.f_p.Shapes.map (eSl 1 eStr)), cI r.2.f_f.Params, cI r.2.f_f.Slots, .ro false 1 (r.2.f_f.Caught.map eI), .ro false 2 (r.2.f_f.Code.map e_TJIns), cI r.2.f_own, .mp 1, lstC z0 3 1 r.2.f_todo.length, cB r.2.f_bad]]))) 1 (mapB (.i .i64) (fun x => cI x) (fun (x : Tstate) => (.agg [cI x.f_height, .ro false 1 (x.f_tries.map eI)])) r.2.f_seen)) 3 (lstB z0 1 (r.2.f_todo.map eI)))) ∧ n' = 4
abbrev Z4x (F_ : (List TJFunc) → (List TJVal) → (List TT) → Int → Int → (List Int) → (List TJIns) → Int → (List (Int × Tstate)) → (List Int) → Bool → Option (Bool × Tchecker)) (o : (Bool × Tchecker)) (R_ : St → Prop) : Prop := ∀ (c01 : (List TJFunc)) (c11 : (List TJVal)) (c21 : (List TT)) (c31 : Int) (c41 : Int) (c51 : (List Int)) (c61 : (List TJIns)) (c71 : Int) (c81 : (List (Int × Tstate))) (c91 : (List Int)) (c101 : Bool) (zc91 : Bool) (_ : zc91 = true → c91 = []), F_ c01 c11 c21 c31 c41 c51 c61 c71 c81 c91 c101 = some o → ∀ s, Weak 3 s ⟨(upd e0 0 (some (.c (.ref 0 11 0 0)))), (upd (upd (upd e0 0 (some (.cells 11 [[.ro false 4 (c01.map e_TJFunc), .ro false 3 (c11.map e_TJVal), .ro false 1 (c21.map (eSl 1 eStr)), cI c31, cI c41, .ro false 1 (c51.map eI), .ro false 2 (c61.map e_TJIns), cI c71, .mp 1, lstC zc91 3 1 c91.length, cB c101]]))) 1 (mapB (.i .i64) (fun x => cI x) (fun (x : Tstate) => (.agg [cI x.f_height, .ro false 1 (x.f_tries.map eI)])) c81)) 3 (lstB zc91 1 (c91.map eI))), 4⟩ → R_ s
abbrev Z3e (F_ : Nat → (List TJFunc) → (List TJVal) → (List TT) → Int → Int → (List Int) → (List TJIns) → Int → (List (Int × Tstate)) → (List Int) → Bool → Option (Bool × Tchecker)) (o : (Bool × Tchecker)) : Nat → St → Prop := fun k s => ∃ (c0 : (List TJFunc)), ∃ (c1 : (List TJVal)), ∃ (c2 : (List TT)), ∃ (c3 : Int), ∃ (c4 : Int), ∃ (c5 : (List Int)), ∃ (c6 : (List TJIns)), ∃ (c7 : Int), ∃ (c8 : (List (Int × Tstate))), ∃ (c9 : (List Int)), ∃ (c10 : Bool), ∃ (zc9 : Bool), (zc9 = true → c9 = []) ∧ F_ k c0 c1 c2 c3 c4 c5 c6 c7 c8 c9 c10 = some o ∧ s = ⟨(upd e0 0 (some (.c (.ref 0 11 0 0)))), (upd (upd (upd e0 0 (some (.cells 11 [[.ro false 4 (c0.map e_TJFunc), .ro false 3 (c1.map e_TJVal), .ro false 1 (c2.map (eSl 1 eStr)), cI c3, cI c4, .ro false 1 (c5.map eI), .ro false 2 (c6.map e_TJIns), cI c7, .mp 1, lstC zc9 3 1 c9.length, cB c10]]))) 1 (mapB (.i .i64) (fun x => cI x) (fun (x : Tstate) => (.agg [cI x.f_height, .ro false 1 (x.f_tries.map eI)])) c8)) 3 (lstB zc9 1 (c9.map eI))), 4⟩
abbrev Z4y (F_ : (List TJFunc) → (List TJVal) → (List TT) → Int → Int → (List Int) → (List TJIns) → Int → (List (Int × Tstate)) → (List Int) → Bool → Option (Bool × Tchecker)) (o : (Bool × Tchecker)) (R_ : St → Prop) : Prop := ∀ (c0 : (List TJFunc)) (c1 : (List TJVal)) (c2 : (List TT)) (c3 : Int) (c4 : Int) (c5 : (List Int)) (c6 : (List TJIns)) (c7 : Int) (c8 : (List (Int × Tstate))) (c9 : (List Int)) (c10 : Bool) (zc9 : Bool) (_ : zc9 = true → c9 = []), F_ c0 c1 c2 c3 c4 c5 c6 c7 c8 c9 c10 = some o → ∀ s, Weak 3 s ⟨(upd e0 0 (some (.c (.ref 0 11 0 0)))), (upd (upd (upd e0 0 (some (.cells 11 [[.ro false 4 (c0.map e_TJFunc), .ro false 3 (c1.map e_TJVal), .ro false 1 (c2.map (eSl 1 eStr)), cI c3, cI c4, .ro false 1 (c5.map eI), .ro false 2 (c6.map e_TJIns), cI c7, .mp 1, lstC zc9 3 1 c9.length, cB c10]]))) 1 (mapB (.i .i64) (fun x => cI x) (fun (x : Tstate) => (.agg [cI x.f_height, .ro false 1 (x.f_tries.map eI)])) c8)) 3 (lstB zc9 1 (c9.map eI))), 4⟩ → R_ s
noncomputable def Zo (K0_ : (List TJFunc) → (List TJVal) → (List TT) → Int → Int → (List Int) → (List TJIns) → Int → (List (Int × Tstate)) → (List Int) → Bool → Option (Bool × Tchecker)) : Nat → (List TJFunc) → (List TJVal) → (List TT) → Int → Int → (List Int) → (List TJIns) → Int → (List (Int × Tstate)) → (List Int) → Bool → Option (Bool × Tchecker)
 | 0, _, _, _, _, _, _, _, _, _, _, _ => none
 | k + 1, c0, c1, c2, c3, c4, c5, c6, c7, c8, c9, c10 =>
  if ((decide (0 < (c9.length : Int))) && (!c10)) then
   (at? c9 (wi ((c9.length : Int) - 1))).bind fun x_ =>
   (sub? c9 0 (wi ((c9.length : Int) - 1))).bind fun r_2 =>
   (Zv (⟨(⟨c0, c1, c2⟩ : TJProg), (⟨c3, c4, c5, c6⟩ : TJFunc), c7, c8, r_2, c10⟩ : Tchecker) x_).bind fun r_3 =>
   (Zo K0_ k) r_3.f_p.Funcs r_3.f_p.Consts r_3.f_p.Shapes r_3.f_f.Params r_3.f_f.Slots r_3.f_f.Caught r_3.f_f.Code r_3.f_own r_3.f_seen r_3.f_todo r_3.f_bad
  else
   K0_ c0 c1 c2 c3 c4 c5 c6 c7 c8 c9 c10
theorem Z4z {Q : AExit → St → Prop} {K0_ : (List TJFunc) → (List TJVal) → (List TT) → Int → Int → (List Int) → (List TJIns) → Int → (List (Int × Tstate)) → (List Int) → Bool → Option (Bool × Tchecker)} {k : Nat} {c0 : (List TJFunc)} {c1 : (List TJVal)} {c2 : (List TT)} {c3 : Int} {c4 : Int} {c5 : (List Int)} {c6 : (List TJIns)} {c7 : Int} {c8 : (List (Int × Tstate))} {c9 : (List Int)} {c10 : Bool} {zc9 : Bool} (hzc9 : zc9 = true → c9 = []) {o : (Bool × Tchecker)} (h : Zo K0_ k c0 c1 c2 c3 c4 c5 c6 c7 c8 c9 c10 = some o)
  (hK0 : Z4x K0_ o (Q (.exit 0)))
  (hr : ∀ s, Ends a6.results 3 (Z2i o) .ret s → Q .ret s) :
  Sv Tryd.prog GG 3 (.loop a6_c0) Q ⟨(upd e0 0 (some (.c (.ref 0 11 0 0)))), (upd (upd (upd e0 0 (some (.cells 11 [[.ro false 4 (c0.map e_TJFunc), .ro false 3 (c1.map e_TJVal), .ro false 1 (c2.map (eSl 1 eStr)), cI c3, cI c4, .ro false 1 (c5.map eI), .ro false 2 (c6.map e_TJIns), cI c7, .mp 1, lstC zc9 3 1 c9.length, cB c10]]))) 1 (mapB (.i .i64) (fun x => cI x) (fun (x : Tstate) => (.agg [cI x.f_height, .ro false 1 (x.f_tries.map eI)])) c8)) 3 (lstB zc9 1 (c9.map eI))), 4⟩ := by
 refine Sv.loop (I := Z3e (Zo K0_) o) (fun k s hI => ?_) ⟨c0, c1, c2, c3, c4, c5, c6, c7, c8, c9, c10, zc9, hzc9, h, rfl⟩
 clear h
 clear hzc9 zc9 c10 c9 c8 c7 c6 c5 c4 c3 c2 c1 c0
 obtain ⟨c0, c1, c2, c3, c4, c5, c6, c7, c8, c9, c10, zc9, hzc9, h, rfl⟩ := hI
 cases k with
 | zero => cases h
 | succ k =>
 rw [Zo] at h
 have hself : Z4y (Zo K0_ k) o (rnd 3 (Z3e (Zo K0_) o) k Q) := fun c0 c1 c2 c3 c4 c5 c6 c7 c8 c9 c10 zc9 hzc9 h s hw => ⟨_, k, hw, Nat.lt_succ_self k, c0, c1, c2, c3, c4, c5, c6, c7, c8, c9, c10, zc9, hzc9, h, rfl⟩
 refine Sv.seq <| ssr <| un1 rfl <| un1 (v := (.c (.ref 0 11 0 0))) rfl <| un1 (v := (.c (.ref 0 11 0 9))) rfl <| un1 (v := (lstV zc9 3 1 c9.length)) rfl <| un1 (v := (I (c9.length : Int))) (s_lenL rfl (len_nil_of hzc9)) <| un1 (v := (B (decide (0 < (c9.length : Int))))) rfl <| un1 rfl ?_
 refine gjoin 6 (d := 22) (v := (B ((decide (0 < (c9.length : Int))) && (!c10)))) (fun X hX => ?_) ?_
 ·refine split2 (fun hc2 => ?_) (fun hc2 => ?_)
  ·refine gt rfl <| a1 rfl <| gt rfl <| a1 (v := (.c (.ref 0 11 0 0))) rfl <| gt rfl <| a1 (v := (.c (.ref 0 11 0 10))) rfl <| gt rfl <| a1 (v := (B c10)) rfl <| gt rfl <| a1 (v := (B (!c10))) rfl <| un1 (v := (B (!c10))) rfl <| dnil ?_
   exact hX _ (.putEq (by rw [hc2]; rfl) (by repeat (first | exact .putEq (by rw [hc2]) (.refl _) | refine .skp ?_ rfl)))
  ·repeat (first | refine gu rfl ?_ | refine gs rfl rfl ?_)
   refine un1 (v := (B false)) rfl <| dnil ?_
   exact hX _ (.putEq (by rw [hc2]; rfl) (by repeat (first | exact .putEq (by rw [hc2]) (.refl _) | refine .skp ?_ rfl)))
 refine dnil ?_
 refine Sv.cnd rfl h (fun h => ?_) fun h => ?_
 ·refine Sv.skip <| Sv.block <| Sv.seq <| Sv.drawn <| un1 rfl <| un1 (v := (.c (.ref 0 11 0 0))) rfl <| un1 (v := (.c (.ref 0 11 0 9))) rfl <| un1 (v := (lstV zc9 3 1 c9.length)) rfl <| un1 rfl <| un1 (v := (.c (.ref 0 11 0 0))) rfl <| un1 (v := (.c (.ref 0 11 0 9))) rfl <| un1 (v := (lstV zc9 3 1 c9.length)) rfl <| un1 (v := (I (c9.length : Int))) (s_lenL rfl (len_nil_of hzc9)) <| un1 (v := (I (wi ((c9.length : Int) - 1)))) rfl ?_
  obtain ⟨x_, hx1, h⟩ := bnd h
  refine un1 (v := (.c (.ref 3 1 (wi ((c9.length : Int) - 1)).toNat 0))) (s_iaddrL rfl rfl hzc9 hx1) <| un1 (v := (I x_)) (s_loadL (z := zc9) (e := eI) rfl rfl hzc9 hx1 rfl rfl) <| un1 rfl <| dnil <| Sv.seq <| Sv.drawn <| un1 rfl <| un1 rfl <| un1 (v := (.c (.ref 0 11 0 0))) rfl <| un1 (v := (.c (.ref 0 11 0 9))) rfl <| un1 (v := (lstV zc9 3 1 c9.length)) rfl <| un1 rfl <| un1 (v := (.c (.ref 0 11 0 0))) rfl <| un1 (v := (.c (.ref 0 11 0 9))) rfl <| un1 (v := (lstV zc9 3 1 c9.length)) rfl <| un1 (v := (I (c9.length : Int))) (s_lenL rfl (len_nil_of hzc9)) <| un1 (v := (I (wi ((c9.length : Int) - 1)))) rfl ?_
  obtain ⟨r_2, hx2, h⟩ := bnd h
  refine un1 (v := (cutV zc9 3 1 r_2.length c9.length)) (s_cutL rfl hzc9 rfl rfl hx2) <| un1 (v := (.c (.ref 0 11 0 0))) rfl <| un1 (v := (.c (.ref 0 11 0 9))) rfl <| un <| a2n (h' := upd _ 0 (some (.cells 11 [[.ro false 4 (c0.map e_TJFunc), .ro false 3 (c1.map e_TJVal), .ro false 1 (c2.map (eSl 1 eStr)), cI c3, cI c4, .ro false 1 (c5.map eI), .ro false 2 (c6.map e_TJIns), cI c7, .mp 1, cutC zc9 3 1 r_2.length c9.length, cB c10]]))) (n' := 4) rfl rfl hcs <| dweak (show Weak 3 _ ⟨(ue [(48, (.c (.ref 0 11 0 9))), (47, (.c (.ref 0 11 0 0))), (45, (I (wi ((c9.length : Int) - 1)))), (44, (I (c9.length : Int))), (42, (.c (.ref 0 11 0 9))), (41, (.c (.ref 0 11 0 0))), (40, (.c (.ref 0 11 0 0))), (38, (.c (.ref 0 11 0 9))), (37, (.c (.ref 0 11 0 0))), (36, (.c (.ref 0 11 0 0))), (35, (.c (.ref 0 11 0 0))), (34, (I x_)), (32, (I (wi ((c9.length : Int) - 1)))), (31, (I (c9.length : Int))), (29, (.c (.ref 0 11 0 9))), (28, (.c (.ref 0 11 0 0))), (27, (.c (.ref 0 11 0 0))), (25, (.c (.ref 0 11 0 9))), (24, (.c (.ref 0 11 0 0))), (23, (.c (.ref 0 11 0 0))), (22, (B ((decide (0 < (c9.length : Int))) && (!c10)))), (16, (B (decide (0 < (c9.length : Int))))), (15, (B (decide (0 < (c9.length : Int))))), (14, (I (c9.length : Int))), (12, (.c (.ref 0 11 0 9))), (11, (.c (.ref 0 11 0 0))), (10, (.c (.ref 0 11 0 0))), (3, (I x_)), (0, (.c (.ref 0 11 0 0)))]), (upd (upd (upd e0 0 (some (.cells 11 [[.ro false 4 (c0.map e_TJFunc), .ro false 3 (c1.map e_TJVal), .ro false 1 (c2.map (eSl 1 eStr)), cI c3, cI c4, .ro false 1 (c5.map eI), .ro false 2 (c6.map e_TJIns), cI c7, .mp 1, lstC zc9 3 1 r_2.length, cB c10]]))) 1 (mapB (.i .i64) (fun x => cI x) (fun (x : Tstate) => (.agg [cI x.f_height, .ro false 1 (x.f_tries.map eI)])) c8)) 3 (lstB zc9 1 (r_2.map eI))), 4⟩ from (weak_canon [0, 1, 2, 3] rfl (by decide) (by decide) (by decide) (.cr rfl rfl rfl (.cr rfl rfl rfl (.cf rfl rfl (.cf rfl rfl (.cr rfl rfl rfl (.cr rfl rfl rfl (.cr rfl rfl rfl (.cr rfl rfl rfl (.cr rfl rfl rfl (.cr rfl rfl rfl (.cr rfl rfl rfl (.cf rfl rfl (.cf rfl rfl (.cf rfl rfl (.cr rfl rfl rfl (.cr rfl rfl rfl (.cr rfl rfl rfl (.cr rfl rfl rfl (.cr rfl rfl rfl (.cr rfl rfl rfl (.cf rfl rfl (.cf rfl rfl (.cf rfl rfl (.cf rfl rfl (.cr rfl rfl rfl (.cr rfl rfl rfl (.cr rfl rfl rfl (.cf rfl rfl (.cr rfl rfl rfl .nil))))))))))))))))))))))))))))) (.rowP (by decide) rfl (cutP hx2) (fr_map fun _ => rfl) (.box (by decide) rfl .map (.box (by decide) rfl (blkAs_cells (.sm rfl (.sm rfl (.sm rfl (.sm rfl (.sm rfl (.sm rfl (.sm rfl (.sm rfl (.cons (.mp rfl (by decide)) (.cons (cut_ren rfl (by decide) (cut_le hx2)) (.sm rfl .nil)))))))))))) .nil))))) <| dnil <| srg <| un1 rfl <| un1 rfl ?_
  obtain ⟨r_3, hr3, h⟩ := bnd h
  refine un <| ac_gen (bs := [0, 1, 3]) («as» := [(.c (.ref 0 11 0 0)), (I x_)]) (h2 := _) (h1 := (upd (upd (upd e0 0 (some (.cells 11 [[.ro false 4 (c0.map e_TJFunc), .ro false 3 (c1.map e_TJVal), .ro false 1 (c2.map (eSl 1 eStr)), cI c3, cI c4, .ro false 1 (c5.map eI), .ro false 2 (c6.map e_TJIns), cI c7, .mp 1, lstC zc9 3 1 r_2.length, cB c10]]))) 1 (mapB (.i .i64) (fun x => cI x) (fun (x : Tstate) => (.agg [cI x.f_height, .ro false 1 (x.f_tries.map eI)])) c8)) 3 (lstB zc9 1 (r_2.map eI)))) (Z4w (cut_nil hzc9 hx2) hr3) rfl (.cons (.c (.ref rfl (by decide))) (.cons (avAs_free rfl) .nil)) (hsub_refl _) (.cons rfl (.cons rfl (.cons rfl (.nil _)))) hcs (by decide) (by decide) (.cons (.c (.ref rfl (by decide))) (.cons (avAs_free rfl) .nil)) (.row (by decide) rfl (fr_map fun _ => rfl) (.box (by decide) rfl .map (.box (by decide) rfl (blkAs_cells (.sm rfl (.sm rfl (.sm rfl (.sm rfl (.sm rfl (.sm rfl (.sm rfl (.sm rfl (.cons (.mp rfl (by decide)) (.cons (lstC_ren rfl (by decide)) (.sm rfl .nil)))))))))))) .nil))) ?_
  rintro _ _ _ hn ⟨z_2, hz_2, rfl, rfl, rfl⟩
  refine ⟨.inl rfl, (upd (upd (upd (rem [0, 1, 3] _) 0 (some (.cells 11 [[.ro false 4 (r_3.f_p.Funcs.map e_TJFunc), .ro false 3 (r_3.f_p.Consts.map e_TJVal), .ro false 1 (r_3.f_p.Shapes.map (eSl 1 eStr)), cI r_3.f_f.Params, cI r_3.f_f.Slots, .ro false 1 (r_3.f_f.Caught.map eI), .ro false 2 (r_3.f_f.Code.map e_TJIns), cI r_3.f_own, .mp 1, lstC z_2 4 1 r_3.f_todo.length, cB r_3.f_bad]]))) 1 (mapB (.i .i64) (fun x => cI x) (fun (x : Tstate) => (.agg [cI x.f_height, .ro false 1 (x.f_tries.map eI)])) r_3.f_seen)) 4 (lstB z_2 1 (r_3.f_todo.map eI))), fun hbd => (m3_cons (m3_row rfl (fr_map fun _ => rfl)) (m3_cons (m3_box rfl rfl) (m3_cons (m3_box rfl (by cases z_2 <;> rfl)) (m3_rem (in_cons (by decide) (in_cons (by decide) (in_cons (by decide) (in_nil _)))) (.cons (by decide) (.cons (by decide) (.cons (by decide) .nil))) hbd)))), (.tup []), 5, (by cases z_2 <;> rfl), rfl, ?_⟩
  refine dnil ?_
  exact hself r_3.f_p.Funcs r_3.f_p.Consts r_3.f_p.Shapes r_3.f_f.Params r_3.f_f.Slots r_3.f_f.Caught r_3.f_f.Code r_3.f_own r_3.f_seen r_3.f_todo r_3.f_bad z_2 hz_2 h _ (weak_canon [0, 1, 2, 4] rfl (by decide) (by decide) (by decide) (.cr rfl rfl rfl .nil) (.row (by decide) rfl (fr_map fun _ => rfl) (.box (by decide) rfl .map (.box (by decide) rfl (blkAs_cells (.sm rfl (.sm rfl (.sm rfl (.sm rfl (.sm rfl (.sm rfl (.sm rfl (.sm rfl (.cons (.mp rfl (by decide)) (.cons (lstC_ren rfl (by decide)) (.sm rfl .nil)))))))))))) .nil))))
 ·refine Sv.exit ?_
  exact hK0 c0 c1 c2 c3 c4 c5 c6 c7 c8 c9 c10 zc9 hzc9 h _ (weak_canon [0, 1, 2, 3] rfl (by decide) (by decide) (by decide) (.cr rfl rfl rfl .nil) (.row (by decide) rfl (fr_map fun _ => rfl) (.box (by decide) rfl .map (.box (by decide) rfl (blkAs_cells (.sm rfl (.sm rfl (.sm rfl (.sm rfl (.sm rfl (.sm rfl (.sm rfl (.sm rfl (.cons (.mp rfl (by decide)) (.cons (lstC_ren rfl (by decide)) (.sm rfl .nil)))))))))))) .nil))))
/-- (*clerestory/code.checker).right -/
noncomputable def Z1n (c_ : Tchecker) : Option (Bool × Tchecker) :=
 (Z1j c_).bind fun r_ =>
 if (!r_.1) then
  some (false, r_.2)
 else
  (Z5 r_.2 0 (⟨0, []⟩ : Tstate)).bind fun r_1 =>
  lim fun kk => Zo (fun (c01 : (List TJFunc)) (c11 : (List TJVal)) (c21 : (List TT)) (c31 : Int) (c41 : Int) (c51 : (List Int)) (c61 : (List TJIns)) (c71 : Int) (c81 : (List (Int × Tstate))) (c91 : (List Int)) (c101 : Bool) => 
    some ((!c101), (⟨(⟨c01, c11, c21⟩ : TJProg), (⟨c31, c41, c51, c61⟩ : TJFunc), c71, c81, c91, c101⟩ : Tchecker))) kk r_1.f_p.Funcs r_1.f_p.Consts r_1.f_p.Shapes r_1.f_f.Params r_1.f_f.Slots r_1.f_f.Caught r_1.f_f.Code r_1.f_own r_1.f_seen r_1.f_todo r_1.f_bad
theorem Z50 {c_ : Tchecker} {zc : Bool} (hzc : zc = true → c_.f_todo = []) {r : (Bool × Tchecker)} (h : Z1n c_ = some r) : ACalls Tryd.prog GG 6 [(.c (.ref 0 11 0 0))] (upd (upd (upd e0 0 (some (.cells 11 [[.ro false 4 (c_.f_p.Funcs.map e_TJFunc), .ro false 3 (c_.f_p.Consts.map e_TJVal), .ro false 1 (c_.f_p.Shapes.map (eSl 1 eStr)), cI c_.f_f.Params, cI c_.f_f.Slots, .ro false 1 (c_.f_f.Caught.map eI), .ro false 2 (c_.f_f.Code.map e_TJIns), cI c_.f_own, .mp 1, lstC zc 2 1 c_.f_todo.length, cB c_.f_bad]]))) 1 (mapB (.i .i64) (fun x => cI x) (fun (x : Tstate) => (.agg [cI x.f_height, .ro false 1 (x.f_tries.map eI)])) c_.f_seen)) 2 (lstB zc 1 (c_.f_todo.map eI))) 3 (Z2i r) := by
 refine acalls_of_sv hmix c6 (R := Z2i r) ?_
 unfold Z1n at h
 refine ssr <| un1 rfl <| dnil <| Sv.seq <| ssr <| un1 rfl ?_
 obtain ⟨r_, hr1, h⟩ := bnd h
 refine un <| ac_gen (bs := [0, 1, 2]) («as» := [(.c (.ref 0 11 0 0))]) (h2 := _) (h1 := (upd (upd (upd e0 0 (some (.cells 11 [[.ro false 4 (c_.f_p.Funcs.map e_TJFunc), .ro false 3 (c_.f_p.Consts.map e_TJVal), .ro false 1 (c_.f_p.Shapes.map (eSl 1 eStr)), cI c_.f_f.Params, cI c_.f_f.Slots, .ro false 1 (c_.f_f.Caught.map eI), .ro false 2 (c_.f_f.Code.map e_TJIns), cI c_.f_own, .mp 1, lstC zc 2 1 c_.f_todo.length, cB c_.f_bad]]))) 1 (mapB (.i .i64) (fun x => cI x) (fun (x : Tstate) => (.agg [cI x.f_height, .ro false 1 (x.f_tries.map eI)])) c_.f_seen)) 2 (lstB zc 1 (c_.f_todo.map eI)))) (Z4i hzc hr1) rfl (.cons (.c (.ref rfl (by decide))) .nil) (hsub_refl _) (.cons rfl (.cons rfl (.cons rfl (.nil _)))) hcs (by decide) (by decide) (.cons (.c (.ref rfl (by decide))) .nil) (.row (by decide) rfl (fr_map fun _ => rfl) (.box (by decide) rfl .map (.box (by decide) rfl (blkAs_cells (.sm rfl (.sm rfl (.sm rfl (.sm rfl (.sm rfl (.sm rfl (.sm rfl (.sm rfl (.cons (.mp rfl (by decide)) (.cons (lstC_ren rfl (by decide)) (.sm rfl .nil)))))))))))) .nil))) ?_
 rintro _ _ _ hn ⟨z_, hz_, rfl, rfl, rfl⟩
 refine ⟨.inl rfl, (upd (upd (upd (rem [0, 1, 2] _) 0 (some (.cells 11 [[.ro false 4 (r_.2.f_p.Funcs.map e_TJFunc), .ro false 3 (r_.2.f_p.Consts.map e_TJVal), .ro false 1 (r_.2.f_p.Shapes.map (eSl 1 eStr)), cI r_.2.f_f.Params, cI r_.2.f_f.Slots, .ro false 1 (r_.2.f_f.Caught.map eI), .ro false 2 (r_.2.f_f.Code.map e_TJIns), cI r_.2.f_own, .mp 1, lstC z_ 3 1 r_.2.f_todo.length, cB r_.2.f_bad]]))) 1 (mapB (.i .i64) (fun x => cI x) (fun (x : Tstate) => (.agg [cI x.f_height, .ro false 1 (x.f_tries.map eI)])) r_.2.f_seen)) 3 (lstB z_ 1 (r_.2.f_todo.map eI))), fun hbd => (m3_cons (m3_row rfl (fr_map fun _ => rfl)) (m3_cons (m3_box rfl rfl) (m3_cons (m3_box rfl (by cases z_ <;> rfl)) (m3_rem (in_cons (by decide) (in_cons (by decide) (in_cons (by decide) (in_nil _)))) (.cons (by decide) (.cons (by decide) (.cons (by decide) .nil))) hbd)))), (B r_.1), 4, (by cases z_ <;> rfl), rfl, ?_⟩
 refine un1 (v := (B (!r_.1))) rfl <| dnil ?_
 refine Sv.cnd rfl h (fun h => ?_) fun h => ?_
 ·refine ssr <| un1 rfl <| dnil <| Sv.ret ?_
  replace h := Option.some.inj h
  subst h
  exact ⟨_, .refl _, _, rfl, ⟨upd e0 0 (some (B false)), (upd (upd (upd e0 0 (some (.cells 11 [[.ro false 4 (r_.2.f_p.Funcs.map e_TJFunc), .ro false 3 (r_.2.f_p.Consts.map e_TJVal), .ro false 1 (r_.2.f_p.Shapes.map (eSl 1 eStr)), cI r_.2.f_f.Params, cI r_.2.f_f.Slots, .ro false 1 (r_.2.f_f.Caught.map eI), .ro false 2 (r_.2.f_f.Code.map e_TJIns), cI r_.2.f_own, .mp 1, lstC z_ 3 1 r_.2.f_todo.length, cB r_.2.f_bad]]))) 1 (mapB (.i .i64) (fun x => cI x) (fun (x : Tstate) => (.agg [cI x.f_height, .ro false 1 (x.f_tries.map eI)])) r_.2.f_seen)) 3 (lstB z_ 1 (r_.2.f_todo.map eI))), 4⟩, (B false), weak_canon2 [0, 1, 2, 3] [0, 1, 3] (by decide) (by decide) (by decide) (.cons (by decide) (.cons (by decide) (.cons (by decide) .nil))) (.cf rfl rfl .nil) (.row (by decide) rfl (fr_map fun _ => rfl) (.box (by decide) rfl .map (.box (by decide) rfl (blkAs_cells (.sm rfl (.sm rfl (.sm rfl (.sm rfl (.sm rfl (.sm rfl (.sm rfl (.sm rfl (.cons (.mp rfl (by decide)) (.cons (lstC_ren rfl (by decide)) (.sm rfl .nil)))))))))))) .nil))), rfl, z_, hz_, rfl, rfl, rfl⟩
 ·refine Sv.skip <| ssr <| un1 rfl <| un1 (v := (.agg [cI 0, .ro true 1 []])) rfl ?_
  obtain ⟨r_1, hr2, h⟩ := bnd h
  refine un <| ac_gen (bs := [0, 1, 3]) («as» := [(.c (.ref 0 11 0 0)), (I 0), (.agg [cI 0, .ro false 1 (([] : List Int).map eI)])]) (h2 := _) (h1 := (upd (upd (upd e0 0 (some (.cells 11 [[.ro false 4 (r_.2.f_p.Funcs.map e_TJFunc), .ro false 3 (r_.2.f_p.Consts.map e_TJVal), .ro false 1 (r_.2.f_p.Shapes.map (eSl 1 eStr)), cI r_.2.f_f.Params, cI r_.2.f_f.Slots, .ro false 1 (r_.2.f_f.Caught.map eI), .ro false 2 (r_.2.f_f.Code.map e_TJIns), cI r_.2.f_own, .mp 1, lstC z_ 3 1 r_.2.f_todo.length, cB r_.2.f_bad]]))) 1 (mapB (.i .i64) (fun x => cI x) (fun (x : Tstate) => (.agg [cI x.f_height, .ro false 1 (x.f_tries.map eI)])) r_.2.f_seen)) 3 (lstB z_ 1 (r_.2.f_todo.map eI)))) (Zj hz_ hr2) rfl (.cons (.c (.ref rfl (by decide))) (.cons (avAs_free rfl) (.cons (avAs_agg (.sm rfl (.cons .nil .nil))) .nil))) (hsub_refl _) (.cons rfl (.cons rfl (.cons rfl (.nil _)))) hcs (by decide) (by decide) (.cons (.c (.ref rfl (by decide))) (.cons (avAs_free rfl) (.cons (avAs_free rfl) .nil))) (.row (by decide) rfl (fr_map fun _ => rfl) (.box (by decide) rfl .map (.box (by decide) rfl (blkAs_cells (.sm rfl (.sm rfl (.sm rfl (.sm rfl (.sm rfl (.sm rfl (.sm rfl (.sm rfl (.cons (.mp rfl (by decide)) (.cons (lstC_ren rfl (by decide)) (.sm rfl .nil)))))))))))) .nil))) ?_
  rintro _ _ _ hn ⟨z_1, hz_1, rfl, rfl, rfl⟩
  refine ⟨.inl rfl, (upd (upd (upd (rem [0, 1, 3] _) 0 (some (.cells 11 [[.ro false 4 (r_1.f_p.Funcs.map e_TJFunc), .ro false 3 (r_1.f_p.Consts.map e_TJVal), .ro false 1 (r_1.f_p.Shapes.map (eSl 1 eStr)), cI r_1.f_f.Params, cI r_1.f_f.Slots, .ro false 1 (r_1.f_f.Caught.map eI), .ro false 2 (r_1.f_f.Code.map e_TJIns), cI r_1.f_own, .mp 1, lstC z_1 4 1 r_1.f_todo.length, cB r_1.f_bad]]))) 1 (mapB (.i .i64) (fun x => cI x) (fun (x : Tstate) => (.agg [cI x.f_height, .ro false 1 (x.f_tries.map eI)])) r_1.f_seen)) 4 (lstB z_1 1 (r_1.f_todo.map eI))), fun hbd => (m3_cons (m3_row rfl (fr_map fun _ => rfl)) (m3_cons (m3_box rfl rfl) (m3_cons (m3_box rfl (by cases z_1 <;> rfl)) (m3_rem (in_cons (by decide) (in_cons (by decide) (in_cons (by decide) (in_nil _)))) (.cons (by decide) (.cons (by decide) (.cons (by decide) .nil))) hbd)))), (.tup []), 5, (by cases z_1 <;> rfl), rfl, ?_⟩
  refine dnil <| Sv.seq <| Sv.block ?_
  obtain ⟨kk, h⟩ := lim_some h
  refine Sv.weak (weak_canon [0, 1, 2, 4] rfl (by decide) (by decide) (by decide) (.cr rfl rfl rfl .nil) (.row (by decide) rfl (fr_map fun _ => rfl) (.box (by decide) rfl .map (.box (by decide) rfl (blkAs_cells (.sm rfl (.sm rfl (.sm rfl (.sm rfl (.sm rfl (.sm rfl (.sm rfl (.sm rfl (.cons (.mp rfl (by decide)) (.cons (lstC_ren rfl (by decide)) (.sm rfl .nil)))))))))))) .nil)))) (Z4z hz_1 h ?_ (fun s hs => hs))
  ·intro c01 c11 c21 c31 c41 c51 c61 c71 c81 c91 c101 zc91 hzc91 h _ hw1
   refine Sv.weak hw1 <| ssr <| un1 rfl <| un1 (v := (.c (.ref 0 11 0 0))) rfl <| un1 (v := (.c (.ref 0 11 0 10))) rfl <| un1 (v := (B c101)) rfl <| un1 (v := (B (!c101))) rfl <| un1 rfl <| dnil <| Sv.ret ?_
   replace h := Option.some.inj h
   subst h
   exact ⟨_, .refl _, _, rfl, ⟨upd e0 0 (some (B (!c101))), (upd (upd (upd e0 0 (some (.cells 11 [[.ro false 4 (c01.map e_TJFunc), .ro false 3 (c11.map e_TJVal), .ro false 1 (c21.map (eSl 1 eStr)), cI c31, cI c41, .ro false 1 (c51.map eI), .ro false 2 (c61.map e_TJIns), cI c71, .mp 1, lstC zc91 3 1 c91.length, cB c101]]))) 1 (mapB (.i .i64) (fun x => cI x) (fun (x : Tstate) => (.agg [cI x.f_height, .ro false 1 (x.f_tries.map eI)])) c81)) 3 (lstB zc91 1 (c91.map eI))), 4⟩, (B (!c101)), weak_canon2 [0, 1, 2, 3] [0, 1, 3] (by decide) (by decide) (by decide) (.cons (by decide) (.cons (by decide) (.cons (by decide) .nil))) (.cf rfl rfl .nil) (.row (by decide) rfl (fr_map fun _ => rfl) (.box (by decide) rfl .map (.box (by decide) rfl (blkAs_cells (.sm rfl (.sm rfl (.sm rfl (.sm rfl (.sm rfl (.sm rfl (.sm rfl (.sm rfl (.cons (.mp rfl (by decide)) (.cons (lstC_ren rfl (by decide)) (.sm rfl .nil)))))))))))) .nil))), rfl, zc91, hzc91, rfl, rfl, rfl⟩
def a4_c0 : ACode := (sr [(oP 28 (.bin .lss (.tmp 27) (.tmp 26)))]
 (.seq (.cond (.tmp 28) .skip (.exit 0))
 (.seq (.block 1 (sr [(oP 29 (.iaddr 4 (.tmp 25) (.tmp 27))), (oP 30 (.load true 4 (.tmp 29))), (oP 4 (.box (.const (.agg [(.val (.int .i64 0)), (.val (.int .i64 0)), (.ro true 1 []), (.ro true 2 [])])))), (oN (.store 4 (.tmp 4) (.tmp 30)))]
 (sr [(oP 31 (.faddr 3 (.tmp 4))), (oP 32 (.load false 1 (.tmp 31))), (oP 33 (.len (.tmp 32))), (oP 34 (.bin .gtr (.tmp 33) (kI 8000))), (mV 35 34), ⟨(some 36), (.faddr 1 (.tmp 4)), (some (35, false))⟩, ⟨(some 37), (.load false 1 (.tmp 36)), (some (35, false))⟩, ⟨(some 38), (.bin .gtr (.tmp 37) (kI 400)), (some (35, false))⟩, (oP 39 (.pick (.tmp 35) kT (.tmp 38)))]
 (.cond (.tmp 39) (sr [(oP 2 (.mov (kI 2)))]
 .ret) .skip))))
 (.region [(oP 40 (.bin .add (.tmp 27) (kI 1))), (mV 27 40)]))))
def a4_c1 : ACode := (.cond (.tmp 52) (sr [(oP 2 (.mov (kI 3)))]
 .ret) .skip)
def a4_c2 : ACode := (sr [(oP 57 (.bin .lss (.tmp 56) (.tmp 55)))]
 (.seq (.cond (.tmp 57) .skip (.exit 2))
 (.seq (.block 3 (sr [(mV 58 56), (oP 59 (.iaddr 4 (.tmp 54) (.tmp 56))), (oP 60 (.load true 4 (.tmp 59))), (oP 6 (.box (.const (.agg [(.val (.int .i64 0)), (.val (.int .i64 0)), (.ro true 1 []), (.ro true 2 [])])))), (mV 5 58), (oN (.store 4 (.tmp 6) (.tmp 60)))]
 (sr [(oP 61 (.load true 3 (.tmp 1))), (oP 62 (.load true 4 (.tmp 6))), (mV 63 5), (oP 64 (.mkmap (.i .i64))), (oP 65 (.build [(.ro true 4 []), (.ro true 3 []), (.ro true 1 []), (.val (.int .i64 0)), (.val (.int .i64 0)), (.ro true 1 []), (.ro true 2 []), (.val (.int .i64 0)), (.val (.map none)), (.ro true 1 []), (.val (.bool false))] [(0, (3, (.tmp 61))), (3, (4, (.tmp 62))), (7, (1, (.tmp 63))), (8, (1, (.tmp 64)))])), (oP 66 (.box (.tmp 65))), (mV 7 66)]
 (sr [(mV 67 7), (oP 68 (.call 6 [(.tmp 67)])), (oP 69 (.un .not (.tmp 68)))]
 (.cond (.tmp 69) (sr [(oP 2 (.mov (kI 3)))]
 .ret) .skip)))))
 (.region [(oP 70 (.bin .add (.tmp 56) (kI 1))), (mV 56 70)]))))
def a4_c3 : ACode := (.seq (sr [(oP 53 (.faddr 0 (.tmp 1))), (oP 54 (.load false 1 (.tmp 53))), (oP 55 (.len (.tmp 54))), (oP 56 (.mov (kI 0)))]
 (.block 2 (.loop a4_c2)))
 (sr [(oP 2 (.mov (kI 0)))]
 .ret))
def a4 : AFunc := ⟨1, [(.tmp 2)], (sr [(oP 1 (.box (.tmp 0))), (oP 2 (.mov (kI 0)))]
 (.seq (sr [(oP 8 (.faddr 0 (.tmp 1))), (oP 9 (.load false 1 (.tmp 8))), (oP 10 (.len (.tmp 9))), (oP 11 (.bin .gtr (.tmp 10) (kI 400))), (mV 12 11), ⟨(some 13), (.faddr 1 (.tmp 1)), (some (12, false))⟩, ⟨(some 14), (.load false 1 (.tmp 13)), (some (12, false))⟩, ⟨(some 15), (.len (.tmp 14)), (some (12, false))⟩, ⟨(some 16), (.bin .gtr (.tmp 15) (kI 400)), (some (12, false))⟩, (oP 17 (.pick (.tmp 12) kT (.tmp 16))), (mV 18 17), ⟨(some 19), (.faddr 2 (.tmp 1)), (some (18, false))⟩, ⟨(some 20), (.load false 1 (.tmp 19)), (some (18, false))⟩, ⟨(some 21), (.len (.tmp 20)), (some (18, false))⟩, ⟨(some 22), (.bin .gtr (.tmp 21) (kI 400)), (some (18, false))⟩, (oP 23 (.pick (.tmp 18) kT (.tmp 22)))]
 (.cond (.tmp 23) (sr [(oP 2 (.mov (kI 2)))]
 .ret) .skip))
 (.seq (sr [(oP 24 (.faddr 0 (.tmp 1))), (oP 25 (.load false 1 (.tmp 24))), (oP 26 (.len (.tmp 25))), (oP 27 (.mov (kI 0)))]
 (.block 0 (.loop a4_c0)))
 (.seq (sr [(oP 41 (.faddr 0 (.tmp 1))), (oP 42 (.load false 1 (.tmp 41))), (oP 43 (.len (.tmp 42))), (oP 44 (.bin .eql (.tmp 43) (kI 0))), (mV 45 44), ⟨(some 46), (.faddr 0 (.tmp 1)), (some (45, false))⟩, ⟨(some 47), (.load false 1 (.tmp 46)), (some (45, false))⟩, ⟨(some 48), (.iaddr 4 (.tmp 47) (kI 0)), (some (45, false))⟩, ⟨(some 49), (.faddr 0 (.tmp 48)), (some (45, false))⟩, ⟨(some 50), (.load false 1 (.tmp 49)), (some (45, false))⟩, ⟨(some 51), (.bin .neq (.tmp 50) (kI 0)), (some (45, false))⟩, (oP 52 (.pick (.tmp 45) kT (.tmp 51)))]
 a4_c1)
 a4_c3))))⟩
theorem c4 : compFunc Tryd.prog 4 = some a4 := by kernel_rfl
def Z1o (r : Int) : AV → Heap → Nat → Prop := fun v h' n' => v = (I r) ∧ (h' = e0) ∧ n' = 0
abbrev Z51 (p_ : TJProg) (F_ : Unit → Option Int) (o : Int) (R_ : St → Prop) : Prop := ∀ (_ : Unit), F_ () = some o → ∀ s, Weak 0 s ⟨(upd e0 1 (some (.c (.ref 0 3 0 0)))), (upd e0 0 (some (.cells 3 [(e_TJProg p_)]))), 1⟩ → R_ s
abbrev Z3f (p_ : TJProg) (F_ : Nat → Int → Option Int) (o : Int) : Nat → St → Prop := fun k s => ∃ (v27 : Int), F_ k v27 = some o ∧ s = ⟨(ue [(27, (I v27)), (26, (I (p_.Funcs.length : Int))), (25, (.c (.ro false 4 (p_.Funcs.map e_TJFunc)))), (1, (.c (.ref 0 3 0 0)))]), (upd e0 0 (some (.cells 3 [(e_TJProg p_)]))), 1⟩
abbrev Z52 (p_ : TJProg) (F_ : Int → Option Int) (o : Int) (R_ : St → Prop) : Prop := ∀ (v27 : Int), F_ v27 = some o → ∀ s, Weak 0 s ⟨(ue [(27, (I v27)), (26, (I (p_.Funcs.length : Int))), (25, (.c (.ro false 4 (p_.Funcs.map e_TJFunc)))), (1, (.c (.ref 0 3 0 0)))]), (upd e0 0 (some (.cells 3 [(e_TJProg p_)]))), 1⟩ → R_ s
noncomputable def Z8 (p_ : TJProg) (K0_ : Unit → Option Int) : Nat → Int → Option Int
 | 0, _ => none
 | k + 1, v27 =>
  if decide (v27 < (p_.Funcs.length : Int)) then
   (at? p_.Funcs v27).bind fun x_ =>
   if ((decide (8000 < (x_.Code.length : Int))) || (decide (400 < x_.Slots))) then
    some 2
   else
    (Z8 p_ K0_ k) (wi (v27 + 1))
  else
   K0_ ()
theorem Z53 {Q : AExit → St → Prop} {p_ : TJProg} {K0_ : Unit → Option Int} {k : Nat} {v27 : Int} {o : Int} (h : Z8 p_ K0_ k v27 = some o)
  (hK0 : Z51 p_ K0_ o (Q (.exit 0)))
  (hr : ∀ s, Ends a4.results 0 (Z1o o) .ret s → Q .ret s) :
  Sv Tryd.prog GG 0 (.loop a4_c0) Q ⟨(ue [(27, (I v27)), (26, (I (p_.Funcs.length : Int))), (25, (.c (.ro false 4 (p_.Funcs.map e_TJFunc)))), (1, (.c (.ref 0 3 0 0)))]), (upd e0 0 (some (.cells 3 [(e_TJProg p_)]))), 1⟩ := by
 refine Sv.loop (I := Z3f p_ (Z8 p_ K0_) o) (fun k s hI => ?_) ⟨v27, h, rfl⟩
 clear h
 clear v27
 obtain ⟨v27, h, rfl⟩ := hI
 cases k with
 | zero => cases h
 | succ k =>
 rw [Z8] at h
 have hself : Z52 p_ (Z8 p_ K0_ k) o (rnd 0 (Z3f p_ (Z8 p_ K0_) o) k Q) := fun v27 h s hw => ⟨_, k, hw, Nat.lt_succ_self k, v27, h, rfl⟩
 refine ssr <| un1 (v := (B (decide (v27 < (p_.Funcs.length : Int))))) rfl <| dnil <| Sv.seq ?_
 refine Sv.cnd rfl h (fun h => ?_) fun h => ?_
 ·refine Sv.skip <| Sv.seq <| Sv.block <| ssr ?_
  obtain ⟨x_, hx1, h⟩ := bnd h
  refine un1 (v := (.c (.rop (e_TJFunc x_)))) (s_iaddr (e := e_TJFunc) (xs := p_.Funcs) rfl rfl hx1) <| un1 (v := (.agg (e_TJFunc x_))) rfl <| un <| a2v (v := (.c (.ref 1 4 0 0))) (h' := upd _ 1 (some (.cells 4 [[cI 0, cI 0, .ro true 1 [], .ro true 2 []]]))) (n' := 2) rfl rfl hcs <| un <| a2n (h' := upd _ 1 (some (.cells 4 [(e_TJFunc x_)]))) (n' := 2) rfl rfl hcs <| dnil <| ssr <| un1 (v := (.c (.ref 1 4 0 3))) rfl <| un1 (v := (.c (.ro false 2 (x_.Code.map e_TJIns)))) rfl <| un1 (v := (I (x_.Code.length : Int))) (s_len (e := e_TJIns) (xs := x_.Code) rfl) <| un1 (v := (B (decide (8000 < (x_.Code.length : Int))))) rfl <| un1 rfl ?_
  refine gjoin 4 (d := 39) (v := (B ((decide (8000 < (x_.Code.length : Int))) || (decide (400 < x_.Slots))))) (fun X hX => ?_) ?_
  ·refine split2 (fun hc5 => ?_) (fun hc5 => ?_)
   ·refine gs rfl rfl <| gs rfl rfl <| gs rfl rfl <| un1 (v := (B true)) rfl <| dnil ?_
    exact hX _ (.putEq (by rw [hc5]; rfl) (.skp (.skp (.skp (.putEq (by rw [hc5]) (.refl _)) rfl) rfl) rfl))
   ·refine gt rfl <| a1 (v := (.c (.ref 1 4 0 1))) rfl <| gt rfl <| a1 (v := (I x_.Slots)) rfl <| gt rfl <| a1 (v := (B (decide (400 < x_.Slots)))) rfl <| un1 (v := (B (decide (400 < x_.Slots)))) rfl <| dnil ?_
    exact hX _ (.putEq (by rw [hc5]; rfl) (.skp (.skp (.skp (.putEq (by rw [hc5]) (.refl _)) rfl) rfl) rfl))
  refine dnil ?_
  refine Sv.cnd rfl h (fun h => ?_) fun h => ?_
  ·refine ssr <| un1 rfl <| dnil <| Sv.ret ?_
   exact hr _ (rt0 h rfl rfl ⟨rfl, rfl, rfl⟩)
  ·refine Sv.skip <| srg <| un1 (v := (I (wi (v27 + 1)))) rfl <| un1 rfl <| dnil ?_
   exact hself (wi (v27 + 1)) h _ (wcn [0] rfl (.cf rfl rfl (.cf rfl rfl (.cf rfl rfl (.cr rfl rfl rfl .nil)))) (.box (by decide) rfl (blkAs_cells (.sm rfl (.sm rfl (.sm rfl .nil)))) .nil))
 ·refine Sv.exit ?_
  exact hK0 () h _ (wcn [0] rfl (.cr rfl rfl rfl .nil) (.box (by decide) rfl (blkAs_cells (.sm rfl (.sm rfl (.sm rfl .nil)))) .nil))
abbrev Z54 (F_ : Unit → Option Int) (o : Int) (R_ : St → Prop) : Prop := ∀ (_ : Unit), F_ () = some o → ∀ s, Weak 0 s ⟨e0, e0, 0⟩ → R_ s
abbrev Z3g (p_ : TJProg) (F_ : Nat → Int → Option Int) (o : Int) : Nat → St → Prop := fun k s => ∃ (v56 : Int), F_ k v56 = some o ∧ s = ⟨(ue [(56, (I v56)), (55, (I (p_.Funcs.length : Int))), (54, (.c (.ro false 4 (p_.Funcs.map e_TJFunc)))), (1, (.c (.ref 0 3 0 0)))]), (upd e0 0 (some (.cells 3 [(e_TJProg p_)]))), 1⟩
abbrev Z55 (p_ : TJProg) (F_ : Int → Option Int) (o : Int) (R_ : St → Prop) : Prop := ∀ (v56 : Int), F_ v56 = some o → ∀ s, Weak 0 s ⟨(ue [(56, (I v56)), (55, (I (p_.Funcs.length : Int))), (54, (.c (.ro false 4 (p_.Funcs.map e_TJFunc)))), (1, (.c (.ref 0 3 0 0)))]), (upd e0 0 (some (.cells 3 [(e_TJProg p_)]))), 1⟩ → R_ s
noncomputable def Zb (p_ : TJProg) (K2_ : Unit → Option Int) : Nat → Int → Option Int
 | 0, _ => none
 | k + 1, v56 =>
  if decide (v56 < (p_.Funcs.length : Int)) then
   (at? p_.Funcs v56).bind fun x_1 =>
   (Z1n (⟨p_, x_1, v56, ([] : List (Int × Tstate)), [], false⟩ : Tchecker)).bind fun r_ =>
   if (!r_.1) then
    some 3
   else
    (Zb p_ K2_ k) (wi (v56 + 1))
  else
   K2_ ()
theorem Z56 {Q : AExit → St → Prop} {p_ : TJProg} {K2_ : Unit → Option Int} {k : Nat} {v56 : Int} {o : Int} (h : Zb p_ K2_ k v56 = some o)
  (hK2 : Z54 K2_ o (Q (.exit 2)))
  (hr : ∀ s, Ends a4.results 0 (Z1o o) .ret s → Q .ret s) :
  Sv Tryd.prog GG 0 (.loop a4_c2) Q ⟨(ue [(56, (I v56)), (55, (I (p_.Funcs.length : Int))), (54, (.c (.ro false 4 (p_.Funcs.map e_TJFunc)))), (1, (.c (.ref 0 3 0 0)))]), (upd e0 0 (some (.cells 3 [(e_TJProg p_)]))), 1⟩ := by
 refine Sv.loop (I := Z3g p_ (Zb p_ K2_) o) (fun k s hI => ?_) ⟨v56, h, rfl⟩
 clear h
 clear v56
 obtain ⟨v56, h, rfl⟩ := hI
 cases k with
 | zero => cases h
 | succ k =>
 rw [Zb] at h
 have hself : Z55 p_ (Zb p_ K2_ k) o (rnd 0 (Z3g p_ (Zb p_ K2_) o) k Q) := fun v56 h s hw => ⟨_, k, hw, Nat.lt_succ_self k, v56, h, rfl⟩
 refine ssr <| un1 (v := (B (decide (v56 < (p_.Funcs.length : Int))))) rfl <| dnil <| Sv.seq ?_
 refine Sv.cnd rfl h (fun h => ?_) fun h => ?_
 ·refine Sv.skip <| Sv.seq <| Sv.block <| ssr <| un1 rfl ?_
  obtain ⟨x_1, hx2, h⟩ := bnd h
  refine un1 (v := (.c (.rop (e_TJFunc x_1)))) (s_iaddr (e := e_TJFunc) (xs := p_.Funcs) rfl rfl hx2) <| un1 (v := (.agg (e_TJFunc x_1))) rfl <| un <| a2v (v := (.c (.ref 1 4 0 0))) (h' := upd _ 1 (some (.cells 4 [[cI 0, cI 0, .ro true 1 [], .ro true 2 []]]))) (n' := 2) rfl rfl hcs <| un1 rfl <| un <| a2n (h' := upd _ 1 (some (.cells 4 [(e_TJFunc x_1)]))) (n' := 2) rfl rfl hcs <| dnil <| ssr <| un1 (v := (.agg (e_TJProg p_))) rfl <| un1 (v := (.agg (e_TJFunc x_1))) rfl <| un1 rfl <| un <| a2v (v := (.c (.mp 2))) (h' := upd _ 2 (mapB (.i .i64) (fun x => cI x) (fun (x : Tstate) => (.agg [cI x.f_height, .ro false 1 (x.f_tries.map eI)])) ([] : List (Int × Tstate)))) (n' := 3) rfl rfl hcs <| un1 (v := (.agg [.ro false 4 (p_.Funcs.map e_TJFunc), .ro false 3 (p_.Consts.map e_TJVal), .ro false 1 (p_.Shapes.map (eSl 1 eStr)), cI x_1.Params, cI x_1.Slots, .ro false 1 (x_1.Caught.map eI), .ro false 2 (x_1.Code.map e_TJIns), cI v56, .mp 2, .ro true 1 [], cB false])) rfl <| un <| a2v (v := (.c (.ref 3 11 0 0))) (h' := upd _ 3 (some (.cells 11 [[.ro false 4 (p_.Funcs.map e_TJFunc), .ro false 3 (p_.Consts.map e_TJVal), .ro false 1 (p_.Shapes.map (eSl 1 eStr)), cI x_1.Params, cI x_1.Slots, .ro false 1 (x_1.Caught.map eI), .ro false 2 (x_1.Code.map e_TJIns), cI v56, .mp 2, .ro true 1 [], cB false]]))) (n' := 4) rfl rfl hcs <| un1 rfl <| dnil <| ssr <| un1 rfl <| dweak (show Weak 0 _ ⟨(ue [(67, (.c (.ref 3 11 0 0))), (66, (.c (.ref 3 11 0 0))), (65, (.agg [.ro false 4 (p_.Funcs.map e_TJFunc), .ro false 3 (p_.Consts.map e_TJVal), .ro false 1 (p_.Shapes.map (eSl 1 eStr)), cI x_1.Params, cI x_1.Slots, .ro false 1 (x_1.Caught.map eI), .ro false 2 (x_1.Code.map e_TJIns), cI v56, .mp 2, .ro true 1 [], cB false])), (64, (.c (.mp 2))), (63, (I v56)), (62, (.agg (e_TJFunc x_1))), (61, (.agg (e_TJProg p_))), (60, (.agg (e_TJFunc x_1))), (59, (.c (.rop (e_TJFunc x_1)))), (58, (I v56)), (57, (B (decide (v56 < (p_.Funcs.length : Int))))), (56, (I v56)), (55, (I (p_.Funcs.length : Int))), (54, (.c (.ro false 4 (p_.Funcs.map e_TJFunc)))), (7, (.c (.ref 3 11 0 0))), (6, (.c (.ref 1 4 0 0))), (5, (I v56)), (1, (.c (.ref 0 3 0 0)))]), (upd (upd (upd (upd (upd e0 0 (some (.cells 3 [(e_TJProg p_)]))) 1 (some (.cells 4 [(e_TJFunc x_1)]))) 2 (mapB (.i .i64) (fun x => cI x) (fun (x : Tstate) => (.agg [cI x.f_height, .ro false 1 (x.f_tries.map eI)])) ([] : List (Int × Tstate)))) 3 (some (.cells 11 [[.ro false 4 (p_.Funcs.map e_TJFunc), .ro false 3 (p_.Consts.map e_TJVal), .ro false 1 (p_.Shapes.map (eSl 1 eStr)), cI x_1.Params, cI x_1.Slots, .ro false 1 (x_1.Caught.map eI), .ro false 2 (x_1.Code.map e_TJIns), cI v56, .mp 2, lstC true 4 1 ([] : List Int).length, cB false]]))) 4 (lstB true 1 (([] : List Int).map eI))), 5⟩ from (wcn [0, 1, 2, 3, 1004] rfl (.cr rfl rfl rfl (.cr rfl rfl rfl (.cons rfl (avAs_agg (.sm rfl (.sm rfl (.sm rfl (.sm rfl (.sm rfl (.sm rfl (.sm rfl (.sm rfl (.cons (.mp rfl (by decide)) (.sm rfl (.sm rfl .nil)))))))))))) (.cons rfl (.c (.mp rfl (by decide))) (.cf rfl rfl (.cf rfl rfl (.cf rfl rfl (.cf rfl rfl (.cf rfl rfl (.cf rfl rfl (.cf rfl rfl (.cf rfl rfl (.cf rfl rfl (.cf rfl rfl (.cr rfl rfl rfl (.cr rfl rfl rfl (.cf rfl rfl (.cr rfl rfl rfl .nil)))))))))))))))))) (.non (by decide) (.box (by decide) rfl (blkAs_cells (.sm rfl (.sm rfl (.sm rfl (.sm rfl (.sm rfl (.sm rfl (.sm rfl (.sm rfl (.cons (.mp rfl (by decide)) (.sm rfl (.sm rfl .nil)))))))))))) (.box (by decide) rfl .map (.box (by decide) rfl (blkAs_cells (.sm rfl (.sm rfl (.sm rfl (.sm rfl .nil))))) (.box (by decide) rfl (blkAs_cells (.sm rfl (.sm rfl (.sm rfl .nil)))) .nil))))))) ?_
  obtain ⟨r_, hr1, h⟩ := bnd h
  refine un <| ac_gen (bs := [3, 2, 4]) («as» := [(.c (.ref 3 11 0 0))]) (h2 := _) (h1 := (upd (upd (upd e0 3 (some (.cells 11 [[.ro false 4 (p_.Funcs.map e_TJFunc), .ro false 3 (p_.Consts.map e_TJVal), .ro false 1 (p_.Shapes.map (eSl 1 eStr)), cI x_1.Params, cI x_1.Slots, .ro false 1 (x_1.Caught.map eI), .ro false 2 (x_1.Code.map e_TJIns), cI v56, .mp 2, lstC true 4 1 ([] : List Int).length, cB false]]))) 2 (mapB (.i .i64) (fun x => cI x) (fun (x : Tstate) => (.agg [cI x.f_height, .ro false 1 (x.f_tries.map eI)])) ([] : List (Int × Tstate)))) 4 (lstB true 1 (([] : List Int).map eI)))) (Z50 (fun _ => rfl) hr1) rfl (.cons (.c (.ref rfl (by decide))) .nil) (hsub_refl _) (.cons rfl (.cons rfl (.cons rfl (.nil _)))) hcs (by decide) (by decide) (.cons (.c (.ref rfl (by decide))) .nil) (.row (by decide) rfl (fr_map fun _ => rfl) (.box (by decide) rfl .map (.box (by decide) rfl (blkAs_cells (.sm rfl (.sm rfl (.sm rfl (.sm rfl (.sm rfl (.sm rfl (.sm rfl (.sm rfl (.cons (.mp rfl (by decide)) (.cons (lstC_ren rfl (by decide)) (.sm rfl .nil)))))))))))) .nil))) ?_
  rintro _ _ _ hn ⟨z_, hz_, rfl, rfl, rfl⟩
  refine ⟨.inl rfl, (upd (upd (upd (rem [3, 2, 4] _) 3 (some (.cells 11 [[.ro false 4 (r_.2.f_p.Funcs.map e_TJFunc), .ro false 3 (r_.2.f_p.Consts.map e_TJVal), .ro false 1 (r_.2.f_p.Shapes.map (eSl 1 eStr)), cI r_.2.f_f.Params, cI r_.2.f_f.Slots, .ro false 1 (r_.2.f_f.Caught.map eI), .ro false 2 (r_.2.f_f.Code.map e_TJIns), cI r_.2.f_own, .mp 2, lstC z_ 5 1 r_.2.f_todo.length, cB r_.2.f_bad]]))) 2 (mapB (.i .i64) (fun x => cI x) (fun (x : Tstate) => (.agg [cI x.f_height, .ro false 1 (x.f_tries.map eI)])) r_.2.f_seen)) 5 (lstB z_ 1 (r_.2.f_todo.map eI))), fun hbd => (m3_cons (m3_row rfl (fr_map fun _ => rfl)) (m3_cons (m3_box rfl rfl) (m3_cons (m3_box rfl (by cases z_ <;> rfl)) (m3_rem (in_cons (by decide) (in_cons (by decide) (in_cons (by decide) (in_nil _)))) (.cons (by decide) (.cons (by decide) (.cons (by decide) .nil))) hbd)))), (B r_.1), 6, (by cases z_ <;> rfl), rfl, ?_⟩
  refine un1 (v := (B (!r_.1))) rfl <| dnil ?_
  refine Sv.cnd rfl h (fun h => ?_) fun h => ?_
  ·refine ssr <| un1 rfl <| dnil <| Sv.ret ?_
   exact hr _ (rt0 h rfl rfl ⟨rfl, rfl, rfl⟩)
  ·refine Sv.skip <| srg <| un1 (v := (I (wi (v56 + 1)))) rfl <| un1 rfl <| dnil ?_
   exact hself (wi (v56 + 1)) h _ (wcn [0] rfl (.cf rfl rfl (.cf rfl rfl (.cf rfl rfl (.cr rfl rfl rfl .nil)))) (.box (by decide) rfl (blkAs_cells (.sm rfl (.sm rfl (.sm rfl .nil)))) .nil))
 ·refine Sv.exit ?_
  exact hK2 () h _ (wcn [] rfl .nil .nil)
abbrev Z57 (o : Int) : AExit → St → Prop := AThen (Sv Tryd.prog GG 0 a4_c3 (Ends a4.results 0 (Z1o o))) (Ends a4.results 0 (Z1o o))
noncomputable def Zw (p_ : TJProg) (v52 : Bool) : Option Int :=
 if v52 then
  some 3
 else
  lim fun kk => Zb p_ (fun (_ : Unit) => 
    some 0) kk 0
theorem Z3h {p_ : TJProg} {v52 : Bool} {o : Int} (h : Zw p_ v52 = some o) :
  Sv Tryd.prog GG 0 a4_c1 (Z57 o) ⟨(ue [(52, (B v52)), (1, (.c (.ref 0 3 0 0)))]), (upd e0 0 (some (.cells 3 [(e_TJProg p_)]))), 1⟩ := by
 unfold Zw at h
 refine Sv.cnd rfl h (fun h => ?_) fun h => ?_
 ·refine ssr <| un1 rfl <| dnil <| Sv.ret ?_
  exact rt0 h rfl rfl ⟨rfl, rfl, rfl⟩
 ·refine Sv.skip <| Sv.seq <| ssr <| un1 (v := (.c (.ref 0 3 0 0))) rfl <| un1 (v := (.c (.ro false 4 (p_.Funcs.map e_TJFunc)))) rfl <| un1 (v := (I (p_.Funcs.length : Int))) (s_len (e := e_TJFunc) (xs := p_.Funcs) rfl) <| un1 rfl <| dnil <| Sv.block ?_
  obtain ⟨kk, h⟩ := lim_some h
  refine Sv.weak (wcn [0] rfl (.cf rfl rfl (.cf rfl rfl (.cf rfl rfl (.cr rfl rfl rfl .nil)))) (.box (by decide) rfl (blkAs_cells (.sm rfl (.sm rfl (.sm rfl .nil)))) .nil)) (Z56 h ?_ (fun s hs => hs))
  ·intro _ h _ hw2
   refine Sv.weak hw2 <| ssr <| un1 rfl <| dnil <| Sv.ret ?_
   exact rt0 h rfl rfl ⟨rfl, rfl, rfl⟩
/-- clerestory/code.Check -/
noncomputable def Zx (p_ : TJProg) : Option Int :=
 if (((decide (400 < (p_.Funcs.length : Int))) || (decide (400 < (p_.Consts.length : Int)))) || (decide (400 < (p_.Shapes.length : Int)))) then
  some 2
 else
  lim fun kk1 => Z8 p_ (fun (_ : Unit) => 
    if decide ((p_.Funcs.length : Int) = 0) then
     Zw p_ true
    else
     (at? p_.Funcs 0).bind fun x_2 =>
     Zw p_ (!decide (x_2.Params = 0))) kk1 0
theorem Z3i {p_ : TJProg} {r : Int} (h : Zx p_ = some r) : CPure Tryd.prog GG 4 [(.agg (e_TJProg p_))] (I r) := by
 refine acalls_of_sv hmix c4 (R := Z1o r) ?_
 unfold Zx at h
 refine ssr <| un <| a2v (v := (.c (.ref 0 3 0 0))) (h' := upd _ 0 (some (.cells 3 [(e_TJProg p_)]))) (n' := 1) rfl rfl hcs <| un1 rfl <| dnil <| Sv.seq <| ssr <| un1 (v := (.c (.ref 0 3 0 0))) rfl <| un1 (v := (.c (.ro false 4 (p_.Funcs.map e_TJFunc)))) rfl <| un1 (v := (I (p_.Funcs.length : Int))) (s_len (e := e_TJFunc) (xs := p_.Funcs) rfl) <| un1 (v := (B (decide (400 < (p_.Funcs.length : Int))))) rfl <| un1 rfl ?_
 refine gjoin 5 (d := 17) (v := (B ((decide (400 < (p_.Funcs.length : Int))) || (decide (400 < (p_.Consts.length : Int)))))) (fun X hX => ?_) ?_
 ·refine split2 (fun hc1 => ?_) (fun hc1 => ?_)
  ·refine gs rfl rfl <| gs rfl rfl <| gs rfl rfl <| gs rfl rfl <| un1 (v := (B true)) rfl <| dnil ?_
   exact hX _ (.putEq (by rw [hc1]; rfl) (.skp (.skp (.skp (.skp (.putEq (by rw [hc1]) (.refl _)) rfl) rfl) rfl) rfl))
  ·refine gt rfl <| a1 (v := (.c (.ref 0 3 0 1))) rfl <| gt rfl <| a1 (v := (.c (.ro false 3 (p_.Consts.map e_TJVal)))) rfl <| gt rfl <| a1 (v := (I (p_.Consts.length : Int))) (s_len (e := e_TJVal) (xs := p_.Consts) rfl) <| gt rfl <| a1 (v := (B (decide (400 < (p_.Consts.length : Int))))) rfl <| un1 (v := (B (decide (400 < (p_.Consts.length : Int))))) rfl <| dnil ?_
   exact hX _ (.putEq (by rw [hc1]; rfl) (.skp (.skp (.skp (.skp (.putEq (by rw [hc1]) (.refl _)) rfl) rfl) rfl) rfl))
 refine un1 rfl ?_
 refine gjoin 5 (d := 23) (v := (B (((decide (400 < (p_.Funcs.length : Int))) || (decide (400 < (p_.Consts.length : Int)))) || (decide (400 < (p_.Shapes.length : Int)))))) (fun X hX => ?_) ?_
 ·refine split2 (fun hc2 => ?_) (fun hc2 => ?_)
  ·refine gs rfl rfl <| gs rfl rfl <| gs rfl rfl <| gs rfl rfl <| un1 (v := (B true)) rfl <| dnil ?_
   exact hX _ (.putEq (by rw [hc2]; rfl) (.skp (.skp (.skp (.skp (.putEq (by rw [hc2]) (.refl _)) rfl) rfl) rfl) rfl))
  ·refine gt rfl <| a1 (v := (.c (.ref 0 3 0 2))) rfl <| gt rfl <| a1 (v := (.c (.ro false 1 (p_.Shapes.map (eSl 1 eStr))))) rfl <| gt rfl <| a1 (v := (I (p_.Shapes.length : Int))) (s_len (e := (eSl 1 eStr)) (xs := p_.Shapes) rfl) <| gt rfl <| a1 (v := (B (decide (400 < (p_.Shapes.length : Int))))) rfl <| un1 (v := (B (decide (400 < (p_.Shapes.length : Int))))) rfl <| dnil ?_
   exact hX _ (.putEq (by rw [hc2]; rfl) (.skp (.skp (.skp (.skp (.putEq (by rw [hc2]) (.refl _)) rfl) rfl) rfl) rfl))
 refine dnil ?_
 refine Sv.cnd rfl h (fun h => ?_) fun h => ?_
 ·refine ssr <| un1 rfl <| dnil <| Sv.ret ?_
  exact rt0 h rfl rfl ⟨rfl, rfl, rfl⟩
 ·refine Sv.skip <| Sv.seq <| ssr <| un1 (v := (.c (.ref 0 3 0 0))) rfl <| un1 (v := (.c (.ro false 4 (p_.Funcs.map e_TJFunc)))) rfl <| un1 (v := (I (p_.Funcs.length : Int))) (s_len (e := e_TJFunc) (xs := p_.Funcs) rfl) <| un1 rfl <| dnil <| Sv.block ?_
  obtain ⟨kk1, h⟩ := lim_some h
  refine Sv.weak (wcn [0] rfl (.cf rfl rfl (.cf rfl rfl (.cf rfl rfl (.cr rfl rfl rfl .nil)))) (.box (by decide) rfl (blkAs_cells (.sm rfl (.sm rfl (.sm rfl .nil)))) .nil)) (Z53 h ?_ (fun s hs => hs))
  ·intro _ h _ hw1
   refine Sv.weak hw1 <| Sv.seq <| ssr <| un1 (v := (.c (.ref 0 3 0 0))) rfl <| un1 (v := (.c (.ro false 4 (p_.Funcs.map e_TJFunc)))) rfl <| un1 (v := (I (p_.Funcs.length : Int))) (s_len (e := e_TJFunc) (xs := p_.Funcs) rfl) <| un1 (v := (B (decide ((p_.Funcs.length : Int) = 0)))) rfl <| un1 rfl ?_
   refine spl h (fun h => ?_) fun h => ?_
   ·repeat (first | refine gu rfl ?_ | refine gs rfl rfl ?_)
    refine un1 (v := (B true)) rfl <| dnil ?_
    exact Sv.weak (wcn [0] rfl (.cf rfl rfl (.cr rfl rfl rfl .nil)) (.box (by decide) rfl (blkAs_cells (.sm rfl (.sm rfl (.sm rfl .nil)))) .nil)) (Z3h h)
   ·refine gt rfl <| a1 (v := (.c (.ref 0 3 0 0))) rfl <| gt rfl <| a1 (v := (.c (.ro false 4 (p_.Funcs.map e_TJFunc)))) rfl ?_
    obtain ⟨x_2, hx3, h⟩ := bnd h
    refine gt rfl <| a1 (v := (.c (.rop (e_TJFunc x_2)))) (s_iaddr (e := e_TJFunc) (xs := p_.Funcs) rfl rfl hx3) <| gt rfl <| a1 (v := (.c (.rop (e_TJFunc x_2)))) rfl <| gt rfl <| a1 (v := (I x_2.Params)) rfl <| gt rfl <| a1 (v := (B (!decide (x_2.Params = 0)))) rfl <| un1 (v := (B (!decide (x_2.Params = 0)))) rfl <| dnil ?_
    exact Sv.weak (wcn [0] rfl (.cf rfl rfl (.cr rfl rfl rfl .nil)) (.box (by decide) rfl (blkAs_cells (.sm rfl (.sm rfl (.sm rfl .nil)))) .nil)) (Z3h h)
def a11 : AFunc := ⟨3, [(.tmp 6)], (sr [(oP 6 (.mov kF))]
 (sr [(mV 7 1), (mV 8 0), (oP 9 (.bin .leq (.tmp 7) (.tmp 8))), (mV 10 9), ⟨(some 11), (.mov (.tmp 0)), (some (10, true))⟩, ⟨(some 12), (.mov (.tmp 2)), (some (10, true))⟩, ⟨(some 13), (.bin .leq (.tmp 11) (.tmp 12)), (some (10, true))⟩, (oP 14 (.pick (.tmp 10) (.tmp 13) kF)), (mV 6 14)]
 .ret))⟩
theorem c11 : compFunc Tryd.prog 11 = some a11 := by kernel_rfl
def Z58 (r : Bool) : AV → Heap → Nat → Prop := fun v h' n' => v = (B r) ∧ (h' = e0) ∧ n' = 0
/-- clerestory/clerestoryref4.Between -/
def Z3 (n_ : Int) (low : Int) (high : Int) : Bool :=
 ((decide (low ≤ n_)) && (decide (n_ ≤ high)))
theorem Z2j (n_ : Int) (low : Int) (high : Int) : CPure Tryd.prog GG 11 [(I n_), (I low), (I high)] (B (Z3 n_ low high)) := by
 generalize h : Z3 n_ low high = o
 refine acalls_of_sv hmix c11 (R := Z58 o) ?_
 unfold Z3 at h
 refine ssr <| un1 rfl <| dnil <| ssr <| un1 rfl <| un1 rfl <| un1 (v := (B (decide (low ≤ n_)))) rfl <| un1 rfl ?_
 refine gjoin 4 (d := 14) (v := (B ((decide (low ≤ n_)) && (decide (n_ ≤ high))))) (fun X hX => ?_) ?_
 ·refine split2 (fun hc1 => ?_) (fun hc1 => ?_)
  ·refine gt rfl <| a1 rfl <| gt rfl <| a1 rfl <| gt rfl <| a1 (v := (B (decide (n_ ≤ high)))) rfl <| un1 (v := (B (decide (n_ ≤ high)))) rfl <| dnil ?_
   exact hX _ (.putEq (by rw [hc1]; rfl) (.skp (.skp (.skp (.putEq (by rw [hc1]) (.refl _)) rfl) rfl) rfl))
  ·refine gs rfl rfl <| gs rfl rfl <| gs rfl rfl <| un1 (v := (B false)) rfl <| dnil ?_
   exact hX _ (.putEq (by rw [hc1]; rfl) (.skp (.skp (.skp (.putEq (by rw [hc1]) (.refl _)) rfl) rfl) rfl))
 refine un1 rfl <| dnil <| Sv.ret ?_
 subst h
 exact ⟨_, .refl _, _, rfl, ⟨upd e0 0 (some (B ((decide (low ≤ n_)) && (decide (n_ ≤ high))))), e0, 0⟩, (B ((decide (low ≤ n_)) && (decide (n_ ≤ high)))), weak_canon [] rfl ndl nll nlz (.cf rfl rfl .nil) .nil, rfl, rfl, rfl, rfl⟩
def a12_c4 : ACode := (.cond (.tmp 24) (sr [(oP 4 (.mov (kI 1))), (oP 5 (.mov (kI 2)))]
 .ret) (sr [(oP 28 (.bin .eql (.tmp 7) (kI 12))), (mV 27 28)]
 (.cond (.tmp 27) (sr [(oP 29 (.faddr 1 (.tmp 2))), (oP 30 (.load false 1 (.tmp 29))), (mV 4 30), (oP 5 (.mov (kI 1)))]
 .ret) (sr [(oP 32 (.bin .eql (.tmp 7) (kI 13))), (mV 31 32)]
 (.cond (.tmp 31) (sr [(oP 33 (.faddr 2 (.tmp 3))), (oP 34 (.load false 1 (.tmp 33))), (oP 35 (.faddr 1 (.tmp 2))), (oP 36 (.load false 1 (.tmp 35))), (oP 37 (.iaddr 1 (.tmp 34) (.tmp 36))), (oP 38 (.load false 1 (.tmp 37))), (oP 39 (.len (.tmp 38))), (mV 4 39), (oP 5 (.mov (kI 1)))]
 .ret) (sr [(oP 41 (.bin .eql (.tmp 7) (kI 15))), (mV 40 41)]
 (.cond (.tmp 40) (sr [(oP 4 (.mov (kI 3))), (oP 5 (.mov (kI 1)))]
 .ret) (sr [(oP 43 (.bin .eql (.tmp 7) (kI 17))), (mV 42 43)]
 (.cond (.tmp 42) (sr [(oP 44 (.faddr 1 (.tmp 2))), (oP 45 (.load false 1 (.tmp 44))), (oP 46 (.bin .add (.tmp 45) (kI 1))), (mV 4 46), (oP 5 (.mov (kI 1)))]
 .ret) (sr [(oP 48 (.bin .eql (.tmp 7) (kI 24))), (mV 47 48)]
 (.cond (.tmp 47) (sr [(oP 4 (.mov (kI 2))), (oP 5 (.mov (kI 3)))]
 .ret) .skip)))))))))))
def a12_c3 : ACode := (.cond (.tmp 21) (sr [(oP 4 (.mov (kI 2))), (oP 5 (.mov (kI 1)))]
 .ret) (.seq (sr [(oP 25 (.bin .eql (.tmp 7) (kI 11))), (mV 24 25)]
 (.cond (.tmp 24) .skip (.region [(oP 26 (.bin .eql (.tmp 7) (kI 23))), (mV 24 26)])))
 a12_c4))
def a12_c2 : ACode := (.cond (.tmp 15) (sr [(oP 4 (.mov (kI 1))), (oP 5 (.mov (kI 0)))]
 .ret) (.seq (sr [(oP 22 (.bin .eql (.tmp 7) (kI 8))), (mV 21 22)]
 (.cond (.tmp 21) .skip (.region [(oP 23 (.bin .eql (.tmp 7) (kI 14))), (mV 21 23)])))
 a12_c3))
def a12_c1 : ACode := (.cond (.tmp 12) (sr [(oP 4 (.mov (kI 1))), (oP 5 (.mov (kI 1)))]
 .ret) (.seq (sr [(oP 16 (.bin .eql (.tmp 7) (kI 5))), (mV 15 16)]
 (.cond (.tmp 15) .skip (sr [(oP 17 (.bin .eql (.tmp 7) (kI 6))), (mV 15 17)]
 (.cond (.tmp 15) .skip (sr [(oP 18 (.bin .eql (.tmp 7) (kI 10))), (mV 15 18)]
 (.cond (.tmp 15) .skip (sr [(oP 19 (.bin .eql (.tmp 7) (kI 18))), (mV 15 19)]
 (.cond (.tmp 15) .skip (.region [(oP 20 (.bin .eql (.tmp 7) (kI 19))), (mV 15 20)])))))))))
 a12_c2))
def a12_c0 : ACode := (.cond (.tmp 8) (sr [(oP 4 (.mov (kI 0))), (oP 5 (.mov (kI 1)))]
 .ret) (.seq (sr [(oP 13 (.bin .eql (.tmp 7) (kI 3))), (mV 12 13)]
 (.cond (.tmp 12) .skip (.region [(oP 14 (.bin .eql (.tmp 7) (kI 7))), (mV 12 14)])))
 a12_c1))
def a12_c5 : ACode := (sr [(oP 4 (.mov (kI 0))), (oP 5 (.mov (kI 0)))]
 .ret)
def a12 : AFunc := ⟨2, [(.tmp 4), (.tmp 5)], (sr [(oP 2 (.box (.tmp 0))), (oP 3 (.box (.tmp 1))), (oP 4 (.mov (kI 0))), (oP 5 (.mov (kI 0)))]
 (.seq (sr [(oP 6 (.faddr 0 (.tmp 2))), (oP 7 (.load false 1 (.tmp 6)))]
 (.block 0 (.seq (sr [(oP 9 (.bin .eql (.tmp 7) (kI 1))), (mV 8 9)]
 (.cond (.tmp 8) .skip (sr [(oP 10 (.bin .eql (.tmp 7) (kI 2))), (mV 8 10)]
 (.cond (.tmp 8) .skip (.region [(oP 11 (.bin .eql (.tmp 7) (kI 16))), (mV 8 11)])))))
 a12_c0)))
 a12_c5))⟩
theorem c12 : compFunc Tryd.prog 12 = some a12 := by kernel_rfl
def Z2k (r : (Int × Int)) : AV → Heap → Nat → Prop := fun v h' n' => v = (.tup [(I r.1), (I r.2)]) ∧ (h' = e0) ∧ n' = 0
abbrev Z59 (o : (Int × Int)) : AExit → St → Prop := AThen (Sv Tryd.prog GG 0 a12_c5 (Ends a12.results 0 (Z2k o))) (Ends a12.results 0 (Z2k o))
abbrev Z1p (o : (Int × Int)) : AExit → St → Prop := ABlock 0 (Z59 o)
noncomputable def Z1q (i_ : TJIns) (p_ : TJProg) (v24 : Bool) : Option (Int × Int) :=
 if v24 then
  some (1, 2)
 else
  if decide (i_.Do = 12) then
   some (i_.A, 1)
  else
   if decide (i_.Do = 13) then
    (at? p_.Shapes i_.A).bind fun x_ =>
    some ((x_.length : Int), 1)
   else
    if decide (i_.Do = 15) then
     some (3, 1)
    else
     if decide (i_.Do = 17) then
      some ((wi (i_.A + 1)), 1)
     else
      if decide (i_.Do = 24) then
       some (2, 3)
      else
       some (0, 0)
theorem Z3j {i_ : TJIns} {p_ : TJProg} {v24 : Bool} {o : (Int × Int)} (h : Z1q i_ p_ v24 = some o) :
  Sv Tryd.prog GG 0 a12_c4 (Z1p o) ⟨(ue [(24, (B v24)), (7, (I i_.Do)), (3, (.c (.ref 1 3 0 0))), (2, (.c (.ref 0 2 0 0)))]), (upd (upd e0 0 (some (.cells 2 [(e_TJIns i_)]))) 1 (some (.cells 3 [(e_TJProg p_)]))), 2⟩ := by
 unfold Z1q at h
 refine Sv.cnd rfl h (fun h => ?_) fun h => ?_
 ·refine ssr <| un1 rfl <| un1 rfl <| dnil <| Sv.ret ?_
  exact rt0 h rfl rfl ⟨rfl, rfl, rfl⟩
 ·refine ssr <| un1 (v := (B (decide (i_.Do = 12)))) rfl <| un1 rfl <| dnil ?_
  refine Sv.cnd rfl h (fun h => ?_) fun h => ?_
  ·refine ssr <| un1 (v := (.c (.ref 0 2 0 1))) rfl <| un1 (v := (I i_.A)) rfl <| un1 rfl <| un1 rfl <| dnil <| Sv.ret ?_
   exact rt0 h rfl rfl ⟨rfl, rfl, rfl⟩
  ·refine ssr <| un1 (v := (B (decide (i_.Do = 13)))) rfl <| un1 rfl <| dnil ?_
   refine Sv.cnd rfl h (fun h => ?_) fun h => ?_
   ·refine ssr <| un1 (v := (.c (.ref 1 3 0 2))) rfl <| un1 (v := (.c (.ro false 1 (p_.Shapes.map (eSl 1 eStr))))) rfl <| un1 (v := (.c (.ref 0 2 0 1))) rfl <| un1 (v := (I i_.A)) rfl ?_
    obtain ⟨x_, hx1, h⟩ := bnd h
    refine un1 (v := (.c (.rop [.ro false 1 (x_.map eStr)]))) (s_iaddr (e := (eSl 1 eStr)) (xs := p_.Shapes) rfl rfl hx1) <| un1 (v := (.c (.ro false 1 (x_.map eStr)))) rfl <| un1 (v := (I (x_.length : Int))) (s_len (e := eStr) (xs := x_) rfl) <| un1 rfl <| un1 rfl <| dnil <| Sv.ret ?_
    exact rt0 h rfl rfl ⟨rfl, rfl, rfl⟩
   ·refine ssr <| un1 (v := (B (decide (i_.Do = 15)))) rfl <| un1 rfl <| dnil ?_
    refine Sv.cnd rfl h (fun h => ?_) fun h => ?_
    ·refine ssr <| un1 rfl <| un1 rfl <| dnil <| Sv.ret ?_
     exact rt0 h rfl rfl ⟨rfl, rfl, rfl⟩
    ·refine ssr <| un1 (v := (B (decide (i_.Do = 17)))) rfl <| un1 rfl <| dnil ?_
     refine Sv.cnd rfl h (fun h => ?_) fun h => ?_
     ·refine ssr <| un1 (v := (.c (.ref 0 2 0 1))) rfl <| un1 (v := (I i_.A)) rfl <| un1 (v := (I (wi (i_.A + 1)))) rfl <| un1 rfl <| un1 rfl <| dnil <| Sv.ret ?_
      exact rt0 h rfl rfl ⟨rfl, rfl, rfl⟩
     ·refine ssr <| un1 (v := (B (decide (i_.Do = 24)))) rfl <| un1 rfl <| dnil ?_
      refine Sv.cnd rfl h (fun h => ?_) fun h => ?_
      ·refine ssr <| un1 rfl <| un1 rfl <| dnil <| Sv.ret ?_
       exact rt0 h rfl rfl ⟨rfl, rfl, rfl⟩
      ·refine Sv.skip <| ssr <| un1 rfl <| un1 rfl <| dnil <| Sv.ret ?_
       exact rt0 h rfl rfl ⟨rfl, rfl, rfl⟩
noncomputable def Z1r (i_ : TJIns) (p_ : TJProg) (v21 : Bool) : Option (Int × Int) :=
 if v21 then
  some (2, 1)
 else
  if decide (i_.Do = 11) then
   Z1q i_ p_ (decide (i_.Do = 11))
  else
   Z1q i_ p_ (decide (i_.Do = 23))
theorem Z3k {i_ : TJIns} {p_ : TJProg} {v21 : Bool} {o : (Int × Int)} (h : Z1r i_ p_ v21 = some o) :
  Sv Tryd.prog GG 0 a12_c3 (Z1p o) ⟨(ue [(21, (B v21)), (7, (I i_.Do)), (3, (.c (.ref 1 3 0 0))), (2, (.c (.ref 0 2 0 0)))]), (upd (upd e0 0 (some (.cells 2 [(e_TJIns i_)]))) 1 (some (.cells 3 [(e_TJProg p_)]))), 2⟩ := by
 unfold Z1r at h
 refine Sv.cnd rfl h (fun h => ?_) fun h => ?_
 ·refine ssr <| un1 rfl <| un1 rfl <| dnil <| Sv.ret ?_
  exact rt0 h rfl rfl ⟨rfl, rfl, rfl⟩
 ·refine Sv.seq <| ssr <| un1 (v := (B (decide (i_.Do = 11)))) rfl <| un1 rfl <| dnil ?_
  refine Sv.cnd rfl h (fun h => ?_) fun h => ?_
  ·refine Sv.skip ?_
   exact Sv.weak (wcn [0, 1] rfl (.cf rfl rfl (.cf rfl rfl (.cr rfl rfl rfl (.cr rfl rfl rfl .nil)))) (.box (by decide) rfl (blkAs_cells (.sm rfl (.sm rfl (.sm rfl .nil)))) (.box (by decide) rfl (blkAs_cells (.sm rfl (.sm rfl .nil))) .nil))) (Z3j h)
  ·refine srg <| un1 (v := (B (decide (i_.Do = 23)))) rfl <| un1 rfl <| dnil ?_
   exact Sv.weak (wcn [0, 1] rfl (.cf rfl rfl (.cf rfl rfl (.cr rfl rfl rfl (.cr rfl rfl rfl .nil)))) (.box (by decide) rfl (blkAs_cells (.sm rfl (.sm rfl (.sm rfl .nil)))) (.box (by decide) rfl (blkAs_cells (.sm rfl (.sm rfl .nil))) .nil))) (Z3j h)
noncomputable def Zy (i_ : TJIns) (p_ : TJProg) (v15 : Bool) : Option (Int × Int) :=
 if v15 then
  some (1, 0)
 else
  if decide (i_.Do = 8) then
   Z1r i_ p_ (decide (i_.Do = 8))
  else
   Z1r i_ p_ (decide (i_.Do = 14))
theorem Z1s {i_ : TJIns} {p_ : TJProg} {v15 : Bool} {o : (Int × Int)} (h : Zy i_ p_ v15 = some o) :
  Sv Tryd.prog GG 0 a12_c2 (Z1p o) ⟨(ue [(15, (B v15)), (7, (I i_.Do)), (3, (.c (.ref 1 3 0 0))), (2, (.c (.ref 0 2 0 0)))]), (upd (upd e0 0 (some (.cells 2 [(e_TJIns i_)]))) 1 (some (.cells 3 [(e_TJProg p_)]))), 2⟩ := by
 unfold Zy at h
 refine Sv.cnd rfl h (fun h => ?_) fun h => ?_
 ·refine ssr <| un1 rfl <| un1 rfl <| dnil <| Sv.ret ?_
  exact rt0 h rfl rfl ⟨rfl, rfl, rfl⟩
 ·refine Sv.seq <| ssr <| un1 (v := (B (decide (i_.Do = 8)))) rfl <| un1 rfl <| dnil ?_
  refine Sv.cnd rfl h (fun h => ?_) fun h => ?_
  ·refine Sv.skip ?_
   exact Sv.weak (wcn [0, 1] rfl (.cf rfl rfl (.cf rfl rfl (.cr rfl rfl rfl (.cr rfl rfl rfl .nil)))) (.box (by decide) rfl (blkAs_cells (.sm rfl (.sm rfl (.sm rfl .nil)))) (.box (by decide) rfl (blkAs_cells (.sm rfl (.sm rfl .nil))) .nil))) (Z3k h)
  ·refine srg <| un1 (v := (B (decide (i_.Do = 14)))) rfl <| un1 rfl <| dnil ?_
   exact Sv.weak (wcn [0, 1] rfl (.cf rfl rfl (.cf rfl rfl (.cr rfl rfl rfl (.cr rfl rfl rfl .nil)))) (.box (by decide) rfl (blkAs_cells (.sm rfl (.sm rfl (.sm rfl .nil)))) (.box (by decide) rfl (blkAs_cells (.sm rfl (.sm rfl .nil))) .nil))) (Z3k h)
noncomputable def Z1t (i_ : TJIns) (p_ : TJProg) (v12 : Bool) : Option (Int × Int) :=
 if v12 then
  some (1, 1)
 else
  if decide (i_.Do = 5) then
   Zy i_ p_ (decide (i_.Do = 5))
  else
   if decide (i_.Do = 6) then
    Zy i_ p_ (decide (i_.Do = 6))
   else
    if decide (i_.Do = 10) then
     Zy i_ p_ (decide (i_.Do = 10))
    else
     if decide (i_.Do = 18) then
      Zy i_ p_ (decide (i_.Do = 18))
     else
      Zy i_ p_ (decide (i_.Do = 19))
theorem Z3l {i_ : TJIns} {p_ : TJProg} {v12 : Bool} {o : (Int × Int)} (h : Z1t i_ p_ v12 = some o) :
  Sv Tryd.prog GG 0 a12_c1 (Z1p o) ⟨(ue [(12, (B v12)), (7, (I i_.Do)), (3, (.c (.ref 1 3 0 0))), (2, (.c (.ref 0 2 0 0)))]), (upd (upd e0 0 (some (.cells 2 [(e_TJIns i_)]))) 1 (some (.cells 3 [(e_TJProg p_)]))), 2⟩ := by
 unfold Z1t at h
 refine Sv.cnd rfl h (fun h => ?_) fun h => ?_
 ·refine ssr <| un1 rfl <| un1 rfl <| dnil <| Sv.ret ?_
  exact rt0 h rfl rfl ⟨rfl, rfl, rfl⟩
 ·refine Sv.seq <| ssr <| un1 (v := (B (decide (i_.Do = 5)))) rfl <| un1 rfl <| dnil ?_
  refine Sv.cnd rfl h (fun h => ?_) fun h => ?_
  ·refine Sv.skip ?_
   exact Sv.weak (wcn [0, 1] rfl (.cf rfl rfl (.cf rfl rfl (.cr rfl rfl rfl (.cr rfl rfl rfl .nil)))) (.box (by decide) rfl (blkAs_cells (.sm rfl (.sm rfl (.sm rfl .nil)))) (.box (by decide) rfl (blkAs_cells (.sm rfl (.sm rfl .nil))) .nil))) (Z1s h)
  ·refine ssr <| un1 (v := (B (decide (i_.Do = 6)))) rfl <| un1 rfl <| dnil ?_
   refine Sv.cnd rfl h (fun h => ?_) fun h => ?_
   ·refine Sv.skip ?_
    exact Sv.weak (wcn [0, 1] rfl (.cf rfl rfl (.cf rfl rfl (.cr rfl rfl rfl (.cr rfl rfl rfl .nil)))) (.box (by decide) rfl (blkAs_cells (.sm rfl (.sm rfl (.sm rfl .nil)))) (.box (by decide) rfl (blkAs_cells (.sm rfl (.sm rfl .nil))) .nil))) (Z1s h)
   ·refine ssr <| un1 (v := (B (decide (i_.Do = 10)))) rfl <| un1 rfl <| dnil ?_
    refine Sv.cnd rfl h (fun h => ?_) fun h => ?_
    ·refine Sv.skip ?_
     exact Sv.weak (wcn [0, 1] rfl (.cf rfl rfl (.cf rfl rfl (.cr rfl rfl rfl (.cr rfl rfl rfl .nil)))) (.box (by decide) rfl (blkAs_cells (.sm rfl (.sm rfl (.sm rfl .nil)))) (.box (by decide) rfl (blkAs_cells (.sm rfl (.sm rfl .nil))) .nil))) (Z1s h)
    ·refine ssr <| un1 (v := (B (decide (i_.Do = 18)))) rfl <| un1 rfl <| dnil ?_
     refine Sv.cnd rfl h (fun h => ?_) fun h => ?_
     ·refine Sv.skip ?_
      exact Sv.weak (wcn [0, 1] rfl (.cf rfl rfl (.cf rfl rfl (.cr rfl rfl rfl (.cr rfl rfl rfl .nil)))) (.box (by decide) rfl (blkAs_cells (.sm rfl (.sm rfl (.sm rfl .nil)))) (.box (by decide) rfl (blkAs_cells (.sm rfl (.sm rfl .nil))) .nil))) (Z1s h)
     ·refine srg <| un1 (v := (B (decide (i_.Do = 19)))) rfl <| un1 rfl <| dnil ?_
      exact Sv.weak (wcn [0, 1] rfl (.cf rfl rfl (.cf rfl rfl (.cr rfl rfl rfl (.cr rfl rfl rfl .nil)))) (.box (by decide) rfl (blkAs_cells (.sm rfl (.sm rfl (.sm rfl .nil)))) (.box (by decide) rfl (blkAs_cells (.sm rfl (.sm rfl .nil))) .nil))) (Z1s h)
noncomputable def Z18 (i_ : TJIns) (p_ : TJProg) (v8 : Bool) : Option (Int × Int) :=
 if v8 then
  some (0, 1)
 else
  if decide (i_.Do = 3) then
   Z1t i_ p_ (decide (i_.Do = 3))
  else
   Z1t i_ p_ (decide (i_.Do = 7))
theorem Z2l {i_ : TJIns} {p_ : TJProg} {v8 : Bool} {o : (Int × Int)} (h : Z18 i_ p_ v8 = some o) :
  Sv Tryd.prog GG 0 a12_c0 (Z1p o) ⟨(ue [(8, (B v8)), (7, (I i_.Do)), (3, (.c (.ref 1 3 0 0))), (2, (.c (.ref 0 2 0 0)))]), (upd (upd e0 0 (some (.cells 2 [(e_TJIns i_)]))) 1 (some (.cells 3 [(e_TJProg p_)]))), 2⟩ := by
 unfold Z18 at h
 refine Sv.cnd rfl h (fun h => ?_) fun h => ?_
 ·refine ssr <| un1 rfl <| un1 rfl <| dnil <| Sv.ret ?_
  exact rt0 h rfl rfl ⟨rfl, rfl, rfl⟩
 ·refine Sv.seq <| ssr <| un1 (v := (B (decide (i_.Do = 3)))) rfl <| un1 rfl <| dnil ?_
  refine Sv.cnd rfl h (fun h => ?_) fun h => ?_
  ·refine Sv.skip ?_
   exact Sv.weak (wcn [0, 1] rfl (.cf rfl rfl (.cf rfl rfl (.cr rfl rfl rfl (.cr rfl rfl rfl .nil)))) (.box (by decide) rfl (blkAs_cells (.sm rfl (.sm rfl (.sm rfl .nil)))) (.box (by decide) rfl (blkAs_cells (.sm rfl (.sm rfl .nil))) .nil))) (Z3l h)
  ·refine srg <| un1 (v := (B (decide (i_.Do = 7)))) rfl <| un1 rfl <| dnil ?_
   exact Sv.weak (wcn [0, 1] rfl (.cf rfl rfl (.cf rfl rfl (.cr rfl rfl rfl (.cr rfl rfl rfl .nil)))) (.box (by decide) rfl (blkAs_cells (.sm rfl (.sm rfl (.sm rfl .nil)))) (.box (by decide) rfl (blkAs_cells (.sm rfl (.sm rfl .nil))) .nil))) (Z3l h)
/-- clerestory/clerestoryref4.moved -/
noncomputable def Z1u (i_ : TJIns) (p_ : TJProg) : Option (Int × Int) :=
 if decide (i_.Do = 1) then
  Z18 i_ p_ (decide (i_.Do = 1))
 else
  if decide (i_.Do = 2) then
   Z18 i_ p_ (decide (i_.Do = 2))
  else
   Z18 i_ p_ (decide (i_.Do = 16))
theorem Z5a {i_ : TJIns} {p_ : TJProg} {r : (Int × Int)} (h : Z1u i_ p_ = some r) : CPure Tryd.prog GG 12 [(.agg (e_TJIns i_)), (.agg (e_TJProg p_))] (.tup [(I r.1), (I r.2)]) := by
 refine acalls_of_sv hmix c12 (R := Z2k r) ?_
 unfold Z1u at h
 refine ssr <| un <| a2v (v := (.c (.ref 0 2 0 0))) (h' := upd _ 0 (some (.cells 2 [(e_TJIns i_)]))) (n' := 1) rfl rfl hcs <| un <| a2v (v := (.c (.ref 1 3 0 0))) (h' := upd _ 1 (some (.cells 3 [(e_TJProg p_)]))) (n' := 2) rfl rfl hcs <| un1 rfl <| un1 rfl <| dnil <| Sv.seq <| ssr <| un1 (v := (.c (.ref 0 2 0 0))) rfl <| un1 (v := (I i_.Do)) rfl <| dnil <| Sv.block <| Sv.seq <| ssr <| un1 (v := (B (decide (i_.Do = 1)))) rfl <| un1 rfl <| dnil ?_
 refine Sv.cnd rfl h (fun h => ?_) fun h => ?_
 ·refine Sv.skip ?_
  exact Sv.weak (wcn [0, 1] rfl (.cf rfl rfl (.cf rfl rfl (.cr rfl rfl rfl (.cr rfl rfl rfl .nil)))) (.box (by decide) rfl (blkAs_cells (.sm rfl (.sm rfl (.sm rfl .nil)))) (.box (by decide) rfl (blkAs_cells (.sm rfl (.sm rfl .nil))) .nil))) (Z2l h)
 ·refine ssr <| un1 (v := (B (decide (i_.Do = 2)))) rfl <| un1 rfl <| dnil ?_
  refine Sv.cnd rfl h (fun h => ?_) fun h => ?_
  ·refine Sv.skip ?_
   exact Sv.weak (wcn [0, 1] rfl (.cf rfl rfl (.cf rfl rfl (.cr rfl rfl rfl (.cr rfl rfl rfl .nil)))) (.box (by decide) rfl (blkAs_cells (.sm rfl (.sm rfl (.sm rfl .nil)))) (.box (by decide) rfl (blkAs_cells (.sm rfl (.sm rfl .nil))) .nil))) (Z2l h)
  ·refine srg <| un1 (v := (B (decide (i_.Do = 16)))) rfl <| un1 rfl <| dnil ?_
   exact Sv.weak (wcn [0, 1] rfl (.cf rfl rfl (.cf rfl rfl (.cr rfl rfl rfl (.cr rfl rfl rfl .nil)))) (.box (by decide) rfl (blkAs_cells (.sm rfl (.sm rfl (.sm rfl .nil)))) (.box (by decide) rfl (blkAs_cells (.sm rfl (.sm rfl .nil))) .nil))) (Z2l h)
def a13_c0 : ACode := (sr [(oP 14 (.bin .lss (.tmp 13) (.tmp 12)))]
 (.seq (.cond (.tmp 14) .skip (.exit 0))
 (.seq (.block 1 (sr [(mV 15 13), (mV 5 15)]
 (.seq (.drawn (.fin [((mV 16 0), (0, 0)), ((mV 17 5), (0, 1)), ((oP 18 (.iaddr 2 (.tmp 16) (.tmp 17))), (0, 2)), ((oP 19 (.load true 2 (.tmp 18))), (0, 3)), ((mV 20 1), (0, 4)), ((mV 21 5), (0, 5)), ((oP 22 (.iaddr 2 (.tmp 20) (.tmp 21))), (0, 6)), ((oP 23 (.load true 2 (.tmp 22))), (0, 7)), ((oP 24 (.eqs true true [.i, .i] (.tmp 19) (.tmp 23))), (0, 8))]))
 (.cond (.tmp 24) (sr [(oP 4 (.mov kF))]
 .ret) .skip))))
 (.region [(oP 25 (.bin .add (.tmp 13) (kI 1))), (mV 13 25)]))))
def a13 : AFunc := ⟨2, [(.tmp 4)], (sr [(oP 4 (.mov kF))]
 (.seq (sr [(mV 6 0), (oP 7 (.len (.tmp 6))), (mV 8 1), (oP 9 (.len (.tmp 8))), (oP 10 (.bin .neq (.tmp 7) (.tmp 9)))]
 (.cond (.tmp 10) (sr [(oP 4 (.mov kF))]
 .ret) .skip))
 (.seq (sr [(mV 11 0), (oP 12 (.len (.tmp 11))), (oP 13 (.mov (kI 0)))]
 (.block 0 (.loop a13_c0)))
 (sr [(oP 4 (.mov kT))]
 .ret))))⟩
theorem c13 : compFunc Tryd.prog 13 = some a13 := by kernel_rfl
def Z3m (r : Bool) : AV → Heap → Nat → Prop := fun v h' n' => v = (B r) ∧ (h' = e0) ∧ n' = 0
abbrev Z5b (F_ : Unit → Option Bool) (o : Bool) (R_ : St → Prop) : Prop := ∀ (_ : Unit), F_ () = some o → ∀ s, Weak 0 s ⟨e0, e0, 0⟩ → R_ s
abbrev Z3n (s1 : (List (Ar2 Int))) (s2 : (List (Ar2 Int))) (F_ : Nat → Int → Option Bool) (o : Bool) : Nat → St → Prop := fun k s => ∃ (v13 : Int), F_ k v13 = some o ∧ s = ⟨(ue [(13, (I v13)), (12, (I (s1.length : Int))), (1, (.c (.ro false 2 (s2.map (eA2 eI))))), (0, (.c (.ro false 2 (s1.map (eA2 eI)))))]), e0, 0⟩
abbrev Z5c (s1 : (List (Ar2 Int))) (s2 : (List (Ar2 Int))) (F_ : Int → Option Bool) (o : Bool) (R_ : St → Prop) : Prop := ∀ (v13 : Int), F_ v13 = some o → ∀ s, Weak 0 s ⟨(ue [(13, (I v13)), (12, (I (s1.length : Int))), (1, (.c (.ro false 2 (s2.map (eA2 eI))))), (0, (.c (.ro false 2 (s1.map (eA2 eI)))))]), e0, 0⟩ → R_ s
noncomputable def Zh (s1 : (List (Ar2 Int))) (s2 : (List (Ar2 Int))) (K0_ : Unit → Option Bool) : Nat → Int → Option Bool
 | 0, _ => none
 | k + 1, v13 =>
  if decide (v13 < (s1.length : Int)) then
   (at? s1 v13).bind fun x_ =>
   (at? s2 v13).bind fun x_1 =>
   if (!(decide (x_.a0 = x_1.a0) && (decide (x_.a1 = x_1.a1) && true))) then
    some false
   else
    (Zh s1 s2 K0_ k) (wi (v13 + 1))
  else
   K0_ ()
theorem Z5d {Q : AExit → St → Prop} {s1 : (List (Ar2 Int))} {s2 : (List (Ar2 Int))} {K0_ : Unit → Option Bool} {k : Nat} {v13 : Int} {o : Bool} (h : Zh s1 s2 K0_ k v13 = some o)
  (hK0 : Z5b K0_ o (Q (.exit 0)))
  (hr : ∀ s, Ends a13.results 0 (Z3m o) .ret s → Q .ret s) :
  Sv Tryd.prog GG 0 (.loop a13_c0) Q ⟨(ue [(13, (I v13)), (12, (I (s1.length : Int))), (1, (.c (.ro false 2 (s2.map (eA2 eI))))), (0, (.c (.ro false 2 (s1.map (eA2 eI)))))]), e0, 0⟩ := by
 refine Sv.loop (I := Z3n s1 s2 (Zh s1 s2 K0_) o) (fun k s hI => ?_) ⟨v13, h, rfl⟩
 clear h
 clear v13
 obtain ⟨v13, h, rfl⟩ := hI
 cases k with
 | zero => cases h
 | succ k =>
 rw [Zh] at h
 have hself : Z5c s1 s2 (Zh s1 s2 K0_ k) o (rnd 0 (Z3n s1 s2 (Zh s1 s2 K0_) o) k Q) := fun v13 h s hw => ⟨_, k, hw, Nat.lt_succ_self k, v13, h, rfl⟩
 refine ssr <| un1 (v := (B (decide (v13 < (s1.length : Int))))) rfl <| dnil <| Sv.seq ?_
 refine Sv.cnd rfl h (fun h => ?_) fun h => ?_
 ·refine Sv.skip <| Sv.seq <| Sv.block <| ssr <| un1 rfl <| un1 rfl <| dnil <| Sv.seq <| Sv.drawn <| un1 rfl <| un1 rfl ?_
  obtain ⟨x_, hx1, h⟩ := bnd h
  refine un1 (v := (.c (.rop [cI x_.a0, cI x_.a1]))) (s_iaddr (e := (eA2 eI)) (xs := s1) rfl rfl hx1) <| un1 (v := (.agg [cI x_.a0, cI x_.a1])) rfl <| un1 rfl <| un1 rfl ?_
  obtain ⟨x_1, hx2, h⟩ := bnd h
  refine un1 (v := (.c (.rop [cI x_1.a0, cI x_1.a1]))) (s_iaddr (e := (eA2 eI)) (xs := s2) rfl rfl hx2) <| un1 (v := (.agg [cI x_1.a0, cI x_1.a1])) rfl <| un1 (v := (B (!(decide (x_.a0 = x_1.a0) && (decide (x_.a1 = x_1.a1) && true))))) rfl <| dnil ?_
  refine Sv.cnd rfl h (fun h => ?_) fun h => ?_
  ·refine ssr <| un1 rfl <| dnil <| Sv.ret ?_
   exact hr _ (rt0 h rfl rfl ⟨rfl, rfl, rfl⟩)
  ·refine Sv.skip <| srg <| un1 (v := (I (wi (v13 + 1)))) rfl <| un1 rfl <| dnil ?_
   exact hself (wi (v13 + 1)) h _ (wcn [] rfl (.cf rfl rfl (.cf rfl rfl (.cf rfl rfl (.cf rfl rfl .nil)))) .nil)
 ·refine Sv.exit ?_
  exact hK0 () h _ (wcn [] rfl .nil .nil)
/-- slices.Equal(()(2)int,(2)int) -/
noncomputable def Z19 (s1 : (List (Ar2 Int))) (s2 : (List (Ar2 Int))) : Option Bool :=
 if (!decide ((s1.length : Int) = (s2.length : Int))) then
  some false
 else
  lim fun kk => Zh s1 s2 (fun (_ : Unit) => 
    some true) kk 0
theorem Z5e {s1 : (List (Ar2 Int))} {s2 : (List (Ar2 Int))} {r : Bool} (h : Z19 s1 s2 = some r) : CPure Tryd.prog GG 13 [(.c (.ro false 2 (s1.map (eA2 eI)))), (.c (.ro false 2 (s2.map (eA2 eI))))] (B r) := by
 refine acalls_of_sv hmix c13 (R := Z3m r) ?_
 unfold Z19 at h
 refine ssr <| un1 rfl <| dnil <| Sv.seq <| ssr <| un1 rfl <| un1 (v := (I (s1.length : Int))) (s_len (e := (eA2 eI)) (xs := s1) rfl) <| un1 rfl <| un1 (v := (I (s2.length : Int))) (s_len (e := (eA2 eI)) (xs := s2) rfl) <| un1 (v := (B (!decide ((s1.length : Int) = (s2.length : Int))))) rfl <| dnil ?_
 refine Sv.cnd rfl h (fun h => ?_) fun h => ?_
 ·refine ssr <| un1 rfl <| dnil <| Sv.ret ?_
  exact rt0 h rfl rfl ⟨rfl, rfl, rfl⟩
 ·refine Sv.skip <| Sv.seq <| ssr <| un1 rfl <| un1 (v := (I (s1.length : Int))) (s_len (e := (eA2 eI)) (xs := s1) rfl) <| un1 rfl <| dnil <| Sv.block ?_
  obtain ⟨kk, h⟩ := lim_some h
  refine Sv.weak (wcn [] rfl (.cf rfl rfl (.cf rfl rfl (.cf rfl rfl (.cf rfl rfl .nil)))) .nil) (Z5d h ?_ (fun s hs => hs))
  ·intro _ h _ hw1
   refine Sv.weak hw1 <| ssr <| un1 rfl <| dnil <| Sv.ret ?_
   exact rt0 h rfl rfl ⟨rfl, rfl, rfl⟩
def a7_c1 : ACode := (sr [(oP 119 (.bin .lss (.tmp 118) (.tmp 117)))]
 (.seq (.cond (.tmp 119) .skip (.exit 2))
 (.seq (.block 3 (sr [(oP 120 (.iaddr 1 (.tmp 116) (.tmp 118))), (oP 121 (.load false 1 (.tmp 120))), (mV 13 121)]
 (sr [(mV 122 13), (oP 123 (.faddr 1 (.tmp 5))), (oP 124 (.load false 1 (.tmp 123))), (oP 125 (.bin .sub (.tmp 124) (kI 1))), (oP 126 (.call 11 [(.tmp 122), (kI 0), (.tmp 125)])), (oP 127 (.un .not (.tmp 126)))]
 (.cond (.tmp 127) (sr [(oP 4 (.mov kF))]
 .ret) .skip))))
 (.region [(oP 128 (.bin .add (.tmp 118) (kI 1))), (mV 118 128)]))))
def a7_c0 : ACode := (.seq (sr [(oP 95 (.faddr 0 (.tmp 9))), (oP 96 (.load false 1 (.tmp 95))), (oP 97 (.call 11 [(.tmp 96), (kI 1), (kI 25)])), (oP 98 (.un .not (.tmp 97))), (mV 99 98), ⟨(some 100), (.faddr 1 (.tmp 9)), (some (99, false))⟩, ⟨(some 101), (.load false 1 (.tmp 100)), (some (99, false))⟩, ⟨(some 102), (.mov (.tmp 10)), (some (99, false))⟩, ⟨(some 103), (.bin .sub (.tmp 102) (kI 1)), (some (99, false))⟩, ⟨(some 104), (.call 11 [(.tmp 101), (kI 0), (.tmp 103)]), (some (99, false))⟩, ⟨(some 105), (.un .not (.tmp 104)), (some (99, false))⟩, (oP 106 (.pick (.tmp 99) kT (.tmp 105)))]
 (.cond (.tmp 106) (sr [(oP 4 (.mov kF))]
 .ret) .skip))
 (sr [(oP 107 (.faddr 0 (.tmp 9))), (oP 108 (.load false 1 (.tmp 107))), (oP 109 (.bin .eql (.tmp 108) (kI 16)))]
 (.cond (.tmp 109) (.seq (sr [(oP 110 (.faddr 0 (.tmp 2))), (oP 111 (.load false 1 (.tmp 110))), (oP 112 (.faddr 1 (.tmp 9))), (oP 113 (.load false 1 (.tmp 112))), (oP 114 (.iaddr 4 (.tmp 111) (.tmp 113))), (oP 115 (.faddr 2 (.tmp 114))), (oP 116 (.load false 1 (.tmp 115))), (oP 117 (.len (.tmp 116))), (oP 118 (.mov (kI 0)))]
 (.block 2 (.loop a7_c1)))
 (sr [(oP 129 (.faddr 1 (.tmp 9))), (oP 130 (.load false 1 (.tmp 129))), (oP 131 (.bin .eql (.tmp 130) (kI 0)))]
 (.cond (.tmp 131) (sr [(oP 4 (.mov kF))]
 .ret) .skip))) .skip)))
def a7_c2 : ACode := (.region [(oP 132 (.bin .add (.tmp 82) (kI 1))), (mV 82 132)])
def a7_c3 : ACode := (sr [(oP 83 (.bin .lss (.tmp 82) (.tmp 81)))]
 (.seq (.cond (.tmp 83) .skip (.exit 0))
 (.seq (.block 1 (sr [(oP 84 (.iaddr 2 (.tmp 80) (.tmp 82))), (oP 85 (.load true 2 (.tmp 84))), (oP 9 (.box (.const (.agg [(.val (.int .i64 0)), (.val (.int .i64 0))])))), (oN (.store 2 (.tmp 9) (.tmp 85)))]
 (sr [(mV 87 7), (oP 88 (.faddr 0 (.tmp 9))), (oP 89 (.load false 1 (.tmp 88))), (oP 90 (.mlook (.i .i64) (.c (.val (.int .i64 0))) true (.tmp 87) (.tmp 89))), (mV 86 90), (oP 91 (.ext (.tmp 86) 0)), (oP 92 (.ext (.tmp 86) 1)), (mV 10 91), (mV 11 92)]
 (.seq (sr [(mV 93 11), (oP 94 (.un .not (.tmp 93)))]
 (.cond (.tmp 94) (.region [(oP 10 (.mov (kI 1)))]) .skip))
 a7_c0))))
 a7_c2)))
def a7_c4 : ACode := (.cond (.tmp 212) (sr [(oP 215 (.faddr 2 (.tmp 18))), (oP 216 (.load false 1 (.tmp 215))), (oP 217 (.len (.tmp 216))), (oP 218 (.bin .gtr (.tmp 217) (kI 0))), (mV 219 218), ⟨(some 220), (.faddr 0 (.tmp 17)), (some (219, false))⟩, ⟨(some 221), (.load false 1 (.tmp 220)), (some (219, false))⟩, ⟨(some 222), (.bin .eql (.tmp 221) (kI 25)), (some (219, false))⟩, ⟨(some 223), (.mov (.tmp 1)), (some (219, false))⟩, ⟨(some 224), (.bin .eql (.tmp 223) (kI 0)), (some (219, false))⟩, ⟨(some 225), (.eqs true false [.b] (.tmp 222) (.tmp 224)), (some (219, false))⟩, (oP 226 (.pick (.tmp 219) kT (.tmp 225)))]
 (.cond (.tmp 226) (sr [(oP 4 (.mov kF))]
 .ret) .skip)) (sr [(oP 228 (.bin .eql (.tmp 176) (kI 19))), (mV 227 228)]
 (.cond (.tmp 227) .skip (sr [(oP 230 (.bin .eql (.tmp 176) (kI 20))), (mV 229 230)]
 (.cond (.tmp 229) (sr [(mV 231 22), (oP 232 (.faddr 1 (.tmp 17))), (oP 233 (.load false 1 (.tmp 232))), (oP 234 (.faddr 1 (.tmp 18))), (oP 235 (.load false 1 (.tmp 234))), (oP 236 (.bin .add (.tmp 235) (kI 1))), (oP 237 (.faddr 2 (.tmp 18))), (oP 238 (.load false 1 (.tmp 237))), (oP 239 (.build [(.val (.bool false)), (.val (.int .i64 0)), (.ro true 2 [])] [(0, (1, kT)), (1, (1, (.tmp 236))), (2, (1, (.tmp 238)))])), (oN (.mput (.i .i64) (.tmp 231) (.tmp 233) (.tmp 239)))]
 (.seq (sr [(oP 240 (.faddr 1 (.tmp 17))), (oP 241 (.load false 1 (.tmp 240))), (mV 242 16), (oP 243 (.bin .add (.tmp 242) (kI 1))), (oP 244 (.bin .eql (.tmp 241) (.tmp 243)))]
 (.cond (.tmp 244) (sr [(oP 4 (.mov kF))]
 .ret) .skip))
 (sr [(oP 245 (.faddr 1 (.tmp 17))), (oP 246 (.load false 1 (.tmp 245))), (oP 247 (.faddr 1 (.tmp 18))), (oP 248 (.load false 1 (.tmp 247))), (oP 249 (.build [(.val (.int .i64 0)), (.val (.int .i64 0))] [(0, (1, (.tmp 246))), (1, (1, (.tmp 248)))])), (oP 250 (.bslice 2 [(.val (.int .i64 0)), (.val (.int .i64 0))] 1 [(0, (.tmp 249))])), (oP 251 (.faddr 2 (.tmp 18))), (oP 252 (.load false 1 (.tmp 251))), (oP 253 (.app 2 16 (.tmp 250) (.tmp 252))), (oP 254 (.faddr 2 (.tmp 21))), (oN (.store 1 (.tmp 254) (.tmp 253)))]
 (.region [(mV 255 22), (mV 256 16), (oP 257 (.bin .add (.tmp 256) (kI 1))), (oP 258 (.load true 3 (.tmp 21))), (oN (.mput (.i .i64) (.tmp 255) (.tmp 257) (.tmp 258)))])))) (sr [(oP 260 (.bin .eql (.tmp 176) (kI 21))), (mV 259 260)]
 (.cond (.tmp 259) (.seq (sr [(oP 261 (.faddr 2 (.tmp 18))), (oP 262 (.load false 1 (.tmp 261))), (oP 263 (.len (.tmp 262))), (oP 264 (.bin .eql (.tmp 263) (kI 0)))]
 (.cond (.tmp 264) (sr [(oP 4 (.mov kF))]
 .ret) .skip))
 (sr [(oP 265 (.faddr 2 (.tmp 18))), (oP 266 (.load false 1 (.tmp 265))), (oP 267 (.slSl 2 (.tmp 266) (some (kI 1)) none none)), (oP 268 (.faddr 2 (.tmp 21))), (oN (.store 1 (.tmp 268) (.tmp 267)))]
 (.region [(mV 269 22), (mV 270 16), (oP 271 (.bin .add (.tmp 270) (kI 1))), (oP 272 (.load true 3 (.tmp 21))), (oN (.mput (.i .i64) (.tmp 269) (.tmp 271) (.tmp 272)))]))) (.region [(mV 177 22), (mV 178 16), (oP 179 (.bin .add (.tmp 178) (kI 1))), (oP 180 (.load true 3 (.tmp 21))), (oN (.mput (.i .i64) (.tmp 177) (.tmp 179) (.tmp 180)))]))))))))
def a7_c7 : ACode := (.cond (.tmp 308) (sr [(oP 4 (.mov kF))]
 .ret) .skip)
def a7_c9 : ACode := (.region [(mV 318 14), (mV 319 23), (oP 320 (.load true 3 (.tmp 24))), (oP 321 (.iaddr 3 (.tmp 318) (.tmp 319))), (oN (.store 3 (.tmp 321) (.tmp 320)))])
def a7_c8 : ACode := (sr [(mV 309 15), (mV 310 309), ⟨(some 311), (.mov (.tmp 14)), (some (310, false))⟩, ⟨(some 312), (.mov (.tmp 23)), (some (310, false))⟩, ⟨(some 313), (.iaddr 3 (.tmp 311) (.tmp 312)), (some (310, false))⟩, ⟨(some 314), (.faddr 0 (.tmp 313)), (some (310, false))⟩, ⟨(some 315), (.load false 1 (.tmp 314)), (some (310, false))⟩, ⟨(some 316), (.un .not (.tmp 315)), (some (310, false))⟩, (oP 317 (.pick (.tmp 310) kT (.tmp 316))), (mV 15 317)]
 a7_c9)
def a7_c10 : ACode := (sr [(oP 275 (.nextM (.tmp 274))), (oP 276 (.ext (.tmp 275) 0))]
 (.seq (.cond (.tmp 276) .skip (.exit 9))
 (.block 10 (sr [(oP 277 (.entryM (.tmp 274))), (oP 278 (.ext (.tmp 277) 0)), (oP 279 (.ext (.tmp 277) 1)), (oP 24 (.box (.const (.agg [(.val (.bool false)), (.val (.int .i64 0)), (.ro true 2 [])])))), (mV 23 278), (oN (.store 3 (.tmp 24) (.tmp 279)))]
 (.seq (sr [(mV 280 23), (mV 281 6), (oP 282 (.bin .geq (.tmp 280) (.tmp 281)))]
 (.cond (.tmp 282) (sr [(oP 4 (.mov kF))]
 .ret) .skip))
 (.seq (.seq (.drawn (.fin [((mV 283 14), (0, 0)), ((mV 284 23), (0, 1)), ((oP 285 (.iaddr 3 (.tmp 283) (.tmp 284))), (0, 2)), ((oP 286 (.faddr 0 (.tmp 285))), (0, 3)), ((oP 287 (.load false 1 (.tmp 286))), (0, 4)), ((mV 288 287), (0, 5)), (⟨(some 289), (.mov (.tmp 14)), (some (288, true))⟩, (0, 6)), (⟨(some 290), (.mov (.tmp 23)), (some (288, true))⟩, (0, 7)), (⟨(some 291), (.iaddr 3 (.tmp 289) (.tmp 290)), (some (288, true))⟩, (0, 8)), (⟨(some 292), (.faddr 1 (.tmp 291)), (some (288, true))⟩, (0, 9)), (⟨(some 293), (.load false 1 (.tmp 292)), (some (288, true))⟩, (0, 10)), (⟨(some 294), (.faddr 1 (.tmp 24)), (some (288, true))⟩, (0, 11)), (⟨(some 295), (.load false 1 (.tmp 294)), (some (288, true))⟩, (0, 12)), (⟨(some 296), (.bin .neq (.tmp 293) (.tmp 295)), (some (288, true))⟩, (0, 13)), (⟨(some 297), (.mov (.tmp 296)), (some (288, true))⟩, (0, 14)), (⟨(some 298), (.mov (.tmp 14)), (some (297, false))⟩, (0, 15)), (⟨(some 299), (.mov (.tmp 23)), (some (297, false))⟩, (0, 16)), (⟨(some 300), (.iaddr 3 (.tmp 298) (.tmp 299)), (some (297, false))⟩, (0, 17)), (⟨(some 301), (.faddr 2 (.tmp 300)), (some (297, false))⟩, (0, 18)), (⟨(some 302), (.load false 1 (.tmp 301)), (some (297, false))⟩, (0, 19)), (⟨(some 303), (.faddr 2 (.tmp 24)), (some (297, false))⟩, (0, 20)), (⟨(some 304), (.load false 1 (.tmp 303)), (some (297, false))⟩, (0, 21)), (⟨(some 305), (.call 13 [(.tmp 302), (.tmp 304)]), (some (297, false))⟩, (2, 22)), (⟨(some 306), (.un .not (.tmp 305)), (some (297, false))⟩, (0, 23)), (⟨(some 307), (.pick (.tmp 297) kT (.tmp 306)), (some (288, true))⟩, (0, 24)), ((oP 308 (.pick (.tmp 288) (.tmp 307) kF)), (0, 25))]))
 a7_c7)
 a7_c8))))))
def a7_c6 : ACode := (sr [(mV 273 22), (oP 274 (.rangeM (.tmp 273)))]
 (.block 9 (.loop a7_c10)))
def a7_c5 : ACode := (.region [(oP 322 (.bin .add (.tmp 143) (kI 1))), (mV 143 322)])
def a7_c11 : ACode := (sr [(oP 144 (.bin .lss (.tmp 143) (.tmp 142)))]
 (.seq (.cond (.tmp 144) .skip (.exit 6))
 (.seq (.block 7 (sr [(mV 145 143), (oP 146 (.iaddr 2 (.tmp 141) (.tmp 143))), (oP 147 (.load true 2 (.tmp 146))), (oP 17 (.box (.const (.agg [(.val (.int .i64 0)), (.val (.int .i64 0))])))), (mV 16 145), (oN (.store 2 (.tmp 17) (.tmp 147)))]
 (sr [(mV 148 14), (mV 149 16), (oP 150 (.iaddr 3 (.tmp 148) (.tmp 149))), (oP 151 (.load true 3 (.tmp 150))), (oP 18 (.box (.const (.agg [(.val (.bool false)), (.val (.int .i64 0)), (.ro true 2 [])])))), (oN (.store 3 (.tmp 18) (.tmp 151)))]
 (.seq (sr [(oP 152 (.faddr 0 (.tmp 18))), (oP 153 (.load false 1 (.tmp 152))), (oP 154 (.un .not (.tmp 153)))]
 (.cond (.tmp 154) (.exit 7) .skip))
 (sr [(oP 156 (.load true 2 (.tmp 17))), (oP 157 (.load true 3 (.tmp 2))), (oP 158 (.call 12 [(.tmp 156), (.tmp 157)])), (mV 155 158), (oP 159 (.ext (.tmp 155) 0)), (oP 160 (.ext (.tmp 155) 1)), (mV 19 159), (mV 20 160)]
 (.seq (sr [(oP 161 (.faddr 1 (.tmp 18))), (oP 162 (.load false 1 (.tmp 161))), (mV 163 19), (oP 164 (.bin .lss (.tmp 162) (.tmp 163)))]
 (.cond (.tmp 164) (sr [(oP 4 (.mov kF))]
 .ret) .skip))
 (sr [(oP 165 (.faddr 1 (.tmp 18))), (oP 166 (.load false 1 (.tmp 165))), (mV 167 19), (oP 168 (.bin .sub (.tmp 166) (.tmp 167))), (mV 169 20), (oP 170 (.bin .add (.tmp 168) (.tmp 169))), (oP 171 (.faddr 2 (.tmp 18))), (oP 172 (.load false 1 (.tmp 171))), (oP 173 (.build [(.val (.bool false)), (.val (.int .i64 0)), (.ro true 2 [])] [(0, (1, kT)), (1, (1, (.tmp 170))), (2, (1, (.tmp 172)))])), (oP 21 (.box (.const (.agg [(.val (.bool false)), (.val (.int .i64 0)), (.ro true 2 [])])))), (oN (.store 3 (.tmp 21) (.tmp 173)))]
 (sr [(oP 174 (.mkmap (.i .i64))), (mV 22 174)]
 (.seq (sr [(oP 175 (.faddr 0 (.tmp 17))), (oP 176 (.load false 1 (.tmp 175)))]
 (.block 8 (sr [(oP 182 (.bin .eql (.tmp 176) (kI 9))), (mV 181 182)]
 (.cond (.tmp 181) (.region [(mV 183 22), (oP 184 (.faddr 1 (.tmp 17))), (oP 185 (.load false 1 (.tmp 184))), (oP 186 (.load true 3 (.tmp 21))), (oN (.mput (.i .i64) (.tmp 183) (.tmp 185) (.tmp 186)))]) (sr [(oP 188 (.bin .eql (.tmp 176) (kI 10))), (mV 187 188)]
 (.cond (.tmp 187) (.drawn (.alt [((mV 189 22), (0, 0)), ((oP 190 (.faddr 1 (.tmp 17))), (0, 1)), ((oP 191 (.load false 1 (.tmp 190))), (0, 2)), ((mV 192 22), (0, 3)), ((mV 193 16), (0, 4)), ((oP 194 (.bin .add (.tmp 193) (kI 1))), (0, 5)), ((oP 195 (.load true 3 (.tmp 21))), (0, 6))] (.fin [((oP 196 (.load true 3 (.tmp 21))), (1, 7)), ((oN (.mput (.i .i64) (.tmp 189) (.tmp 191) (.tmp 195))), (2, 8)), ((oN (.mput (.i .i64) (.tmp 192) (.tmp 194) (.tmp 196))), (2, 9))]) (.fin [((oN (.mput (.i .i64) (.tmp 189) (.tmp 191) (.tmp 195))), (2, 8)), ((oP 196 (.load true 3 (.tmp 21))), (1, 7)), ((oN (.mput (.i .i64) (.tmp 192) (.tmp 194) (.tmp 196))), (2, 9))]))) (sr [(oP 198 (.bin .eql (.tmp 176) (kI 24))), (mV 197 198)]
 (.cond (.tmp 197) (sr [(mV 199 22), (oP 200 (.faddr 1 (.tmp 17))), (oP 201 (.load false 1 (.tmp 200))), (oP 202 (.load true 3 (.tmp 18))), (oN (.mput (.i .i64) (.tmp 199) (.tmp 201) (.tmp 202)))]
 (.seq (sr [(oP 203 (.faddr 1 (.tmp 17))), (oP 204 (.load false 1 (.tmp 203))), (mV 205 16), (oP 206 (.bin .add (.tmp 205) (kI 1))), (oP 207 (.bin .eql (.tmp 204) (.tmp 206)))]
 (.cond (.tmp 207) (sr [(oP 4 (.mov kF))]
 .ret) .skip))
 (.region [(mV 208 22), (mV 209 16), (oP 210 (.bin .add (.tmp 209) (kI 1))), (oP 211 (.load true 3 (.tmp 21))), (oN (.mput (.i .i64) (.tmp 208) (.tmp 210) (.tmp 211)))]))) (.seq (sr [(oP 213 (.bin .eql (.tmp 176) (kI 18))), (mV 212 213)]
 (.cond (.tmp 212) .skip (.region [(oP 214 (.bin .eql (.tmp 176) (kI 25))), (mV 212 214)])))
 a7_c4)))))))))
 a7_c6)))))))))
 a7_c5)))
def a7_c12 : ACode := (.seq (sr [(mV 139 15)]
 (.cond (.tmp 139) .skip (.exit 4)))
 (.block 5 (sr [(oP 15 (.mov kF))]
 (sr [(oP 140 (.faddr 3 (.tmp 5))), (oP 141 (.load false 1 (.tmp 140))), (oP 142 (.len (.tmp 141))), (oP 143 (.mov (kI 0)))]
 (.block 6 (.loop a7_c11))))))
def a7 : AFunc := ⟨2, [(.tmp 4)], (sr [(oP 2 (.box (.tmp 0))), (oP 4 (.mov kF))]
 (sr [(oP 25 (.faddr 0 (.tmp 2))), (oP 26 (.load false 1 (.tmp 25))), (mV 27 1), (oP 28 (.iaddr 4 (.tmp 26) (.tmp 27))), (oP 29 (.load true 4 (.tmp 28))), (oP 5 (.box (.const (.agg [(.val (.int .i64 0)), (.val (.int .i64 0)), (.ro true 1 []), (.ro true 2 [])])))), (oN (.store 4 (.tmp 5) (.tmp 29)))]
 (sr [(oP 30 (.faddr 3 (.tmp 5))), (oP 31 (.load false 1 (.tmp 30))), (oP 32 (.len (.tmp 31))), (mV 6 32)]
 (.seq (sr [(oP 33 (.faddr 0 (.tmp 5))), (oP 34 (.load false 1 (.tmp 33))), (oP 35 (.bin .lss (.tmp 34) (kI 0))), (mV 36 35), ⟨(some 37), (.faddr 1 (.tmp 5)), (some (36, false))⟩, ⟨(some 38), (.load false 1 (.tmp 37)), (some (36, false))⟩, ⟨(some 39), (.bin .lss (.tmp 38) (kI 0)), (some (36, false))⟩, (oP 40 (.pick (.tmp 36) kT (.tmp 39))), (mV 41 40), ⟨(some 42), (.faddr 0 (.tmp 5)), (some (41, false))⟩, ⟨(some 43), (.load false 1 (.tmp 42)), (some (41, false))⟩, ⟨(some 44), (.faddr 1 (.tmp 5)), (some (41, false))⟩, ⟨(some 45), (.load false 1 (.tmp 44)), (some (41, false))⟩, ⟨(some 46), (.faddr 2 (.tmp 5)), (some (41, false))⟩, ⟨(some 47), (.load false 1 (.tmp 46)), (some (41, false))⟩, ⟨(some 48), (.len (.tmp 47)), (some (41, false))⟩, ⟨(some 49), (.bin .sub (.tmp 45) (.tmp 48)), (some (41, false))⟩, ⟨(some 50), (.bin .gtr (.tmp 43) (.tmp 49)), (some (41, false))⟩, (oP 51 (.pick (.tmp 41) kT (.tmp 50))), (mV 52 51), ⟨(some 53), (.mov (.tmp 6)), (some (52, false))⟩, ⟨(some 54), (.bin .eql (.tmp 53) (kI 0)), (some (52, false))⟩, (oP 55 (.pick (.tmp 52) kT (.tmp 54)))]
 (.cond (.tmp 55) (sr [(oP 4 (.mov kF))]
 .ret) .skip))
 (sr [(oP 56 (.mkmap (.i .i64))), (oP 57 (.faddr 1 (.tmp 2))), (oP 58 (.load false 1 (.tmp 57))), (oP 59 (.len (.tmp 58))), (oN (.mput (.i .i64) (.tmp 56) (kI 1) (.tmp 59))), (oP 60 (.faddr 1 (.tmp 5))), (oP 61 (.load false 1 (.tmp 60))), (oN (.mput (.i .i64) (.tmp 56) (kI 2) (.tmp 61))), (oP 62 (.faddr 1 (.tmp 5))), (oP 63 (.load false 1 (.tmp 62))), (oN (.mput (.i .i64) (.tmp 56) (kI 3) (.tmp 63))), (oP 64 (.faddr 1 (.tmp 5))), (oP 65 (.load false 1 (.tmp 64))), (oN (.mput (.i .i64) (.tmp 56) (kI 4) (.tmp 65))), (oP 66 (.faddr 1 (.tmp 5))), (oP 67 (.load false 1 (.tmp 66))), (oN (.mput (.i .i64) (.tmp 56) (kI 5) (.tmp 67))), (oN (.mput (.i .i64) (.tmp 56) (kI 7) (kI 2))), (oN (.mput (.i .i64) (.tmp 56) (kI 8) (kI 11))), (mV 68 6), (oN (.mput (.i .i64) (.tmp 56) (kI 9) (.tmp 68))), (mV 69 6), (oN (.mput (.i .i64) (.tmp 56) (kI 10) (.tmp 69))), (oN (.mput (.i .i64) (.tmp 56) (kI 12) (kI 401))), (oP 70 (.faddr 2 (.tmp 2))), (oP 71 (.load false 1 (.tmp 70))), (oP 72 (.len (.tmp 71))), (oN (.mput (.i .i64) (.tmp 56) (kI 13) (.tmp 72))), (oP 73 (.faddr 0 (.tmp 2))), (oP 74 (.load false 1 (.tmp 73))), (oP 75 (.len (.tmp 74))), (oN (.mput (.i .i64) (.tmp 56) (kI 16) (.tmp 75))), (oN (.mput (.i .i64) (.tmp 56) (kI 17) (kI 401))), (mV 76 6), (oN (.mput (.i .i64) (.tmp 56) (kI 20) (.tmp 76))), (mV 77 6), (oN (.mput (.i .i64) (.tmp 56) (kI 24) (.tmp 77))), (mV 78 56), (mV 7 78)]
 (.seq (sr [(oP 79 (.faddr 3 (.tmp 5))), (oP 80 (.load false 1 (.tmp 79))), (oP 81 (.len (.tmp 80))), (oP 82 (.mov (kI 0)))]
 (.block 0 (.loop a7_c3)))
 (sr [(mV 133 6), (oP 134 (.bin .add (.tmp 133) (kI 1))), (oP 135 (.mksl 3 40 [(.val (.bool false)), (.val (.int .i64 0)), (.ro true 2 [])] (.tmp 134) (.tmp 134))), (mV 14 135)]
 (sr [(mV 136 14), (oP 137 (.iaddr 3 (.tmp 136) (kI 0))), (oP 138 (.faddr 0 (.tmp 137))), (oN (.store 1 (.tmp 138) kT))]
 (.seq (sr [(oP 15 (.mov kT))]
 (.block 4 (.loop a7_c12)))
 (sr [(oP 4 (.mov kT))]
 .ret))))))))))⟩
theorem c7 : compFunc Tryd.prog 7 = some a7 := by kernel_rfl
def Zc (r : Bool) : AV → Heap → Nat → Prop := fun v h' n' => v = (B r) ∧ (h' = e0) ∧ n' = 0
abbrev Z2m (own : Int) (x_ : TJFunc) (p_ : TJProg) (mp14 : (List (Int × Int))) (F_ : Int → Option Bool) (o : Bool) (R_ : St → Prop) : Prop := ∀ (v82 : Int), F_ v82 = some o → ∀ s, Weak 0 s ⟨(ue [(82, (I v82)), (81, (I (x_.Code.length : Int))), (80, (.c (.ro false 2 (x_.Code.map e_TJIns)))), (7, (.c (.mp 2))), (6, (I (x_.Code.length : Int))), (5, (.c (.ref 1 4 0 0))), (2, (.c (.ref 0 3 0 0))), (1, (I own))]), (upd (upd (upd e0 0 (some (.cells 3 [(e_TJProg p_)]))) 1 (some (.cells 4 [(e_TJFunc x_)]))) 2 (mapB (.i .i64) (fun x => cI x) (fun (x : Int) => (I x)) mp14)), 3⟩ → R_ s
abbrev Z2n (own : Int) (x_ : TJFunc) (p_ : TJProg) (F_ : Unit → Option Bool) (o : Bool) (R_ : St → Prop) : Prop := ∀ (_ : Unit), F_ () = some o → ∀ s, Weak 0 s ⟨(ue [(6, (I (x_.Code.length : Int))), (5, (.c (.ref 1 4 0 0))), (2, (.c (.ref 0 3 0 0))), (1, (I own))]), (upd (upd e0 0 (some (.cells 3 [(e_TJProg p_)]))) 1 (some (.cells 4 [(e_TJFunc x_)]))), 2⟩ → R_ s
noncomputable def Z1a (v82 : Int) (own : Int) (x_ : TJFunc) (p_ : TJProg) (mp14 : (List (Int × Int))) (self : Int → Option Bool) (K0_ : Unit → Option Bool) : Option Bool :=
 self (wi (v82 + 1))
theorem Z3o {Q : AExit → St → Prop} {v82 : Int} {own : Int} {x_ : TJFunc} {p_ : TJProg} {mp14 : (List (Int × Int))} {self : Int → Option Bool} {K0_ : Unit → Option Bool} {o : Bool} (h : Z1a v82 own x_ p_ mp14 self K0_ = some o)
  (hself : Z2m own x_ p_ mp14 self o (Q .normal))
  (hK0 : Z2n own x_ p_ K0_ o (Q (.exit 0)))
  (hr : ∀ s, Ends a7.results 0 (Zc o) .ret s → Q .ret s) :
  Sv Tryd.prog GG 0 a7_c2 Q ⟨(ue [(82, (I v82)), (81, (I (x_.Code.length : Int))), (80, (.c (.ro false 2 (x_.Code.map e_TJIns)))), (7, (.c (.mp 2))), (6, (I (x_.Code.length : Int))), (5, (.c (.ref 1 4 0 0))), (2, (.c (.ref 0 3 0 0))), (1, (I own))]), (upd (upd (upd e0 0 (some (.cells 3 [(e_TJProg p_)]))) 1 (some (.cells 4 [(e_TJFunc x_)]))) 2 (mapB (.i .i64) (fun x => cI x) (fun (x : Int) => (I x)) mp14)), 3⟩ := by
 unfold Z1a at h
 refine srg <| un1 (v := (I (wi (v82 + 1)))) rfl <| un1 rfl <| dnil ?_
 exact hself (wi (v82 + 1)) h _ (wcn [0, 1, 2] rfl (.cf rfl rfl (.cf rfl rfl (.cf rfl rfl (.cons rfl (.c (.mp rfl (by decide))) (.cf rfl rfl (.cr rfl rfl rfl (.cr rfl rfl rfl (.cf rfl rfl .nil)))))))) (.box (by decide) rfl .map (.box (by decide) rfl (blkAs_cells (.sm rfl (.sm rfl (.sm rfl (.sm rfl .nil))))) (.box (by decide) rfl (blkAs_cells (.sm rfl (.sm rfl (.sm rfl .nil)))) .nil))))
abbrev Z5f (own : Int) (x_ : TJFunc) (v82 : Int) (p_ : TJProg) (mp14 : (List (Int × Int))) (x_1 : TJIns) (F_ : Unit → Option Bool) (o : Bool) (R_ : St → Prop) : Prop := ∀ (_ : Unit), F_ () = some o → ∀ s, Weak 0 s ⟨(ue [(82, (I v82)), (81, (I (x_.Code.length : Int))), (80, (.c (.ro false 2 (x_.Code.map e_TJIns)))), (9, (.c (.ref 3 2 0 0))), (7, (.c (.mp 2))), (6, (I (x_.Code.length : Int))), (5, (.c (.ref 1 4 0 0))), (2, (.c (.ref 0 3 0 0))), (1, (I own))]), (upd (upd (upd (upd e0 0 (some (.cells 3 [(e_TJProg p_)]))) 1 (some (.cells 4 [(e_TJFunc x_)]))) 2 (mapB (.i .i64) (fun x => cI x) (fun (x : Int) => (I x)) mp14)) 3 (some (.cells 2 [(e_TJIns x_1)]))), 4⟩ → R_ s
abbrev Z3p (own : Int) (x_ : TJFunc) (v82 : Int) (x_2 : TJFunc) (p_ : TJProg) (mp14 : (List (Int × Int))) (x_1 : TJIns) (F_ : Nat → Int → Option Bool) (o : Bool) : Nat → St → Prop := fun k s => ∃ (v118 : Int), F_ k v118 = some o ∧ s = ⟨(ue [(118, (I v118)), (117, (I (x_2.Caught.length : Int))), (116, (.c (.ro false 1 (x_2.Caught.map eI)))), (82, (I v82)), (81, (I (x_.Code.length : Int))), (80, (.c (.ro false 2 (x_.Code.map e_TJIns)))), (9, (.c (.ref 3 2 0 0))), (7, (.c (.mp 2))), (6, (I (x_.Code.length : Int))), (5, (.c (.ref 1 4 0 0))), (2, (.c (.ref 0 3 0 0))), (1, (I own))]), (upd (upd (upd (upd e0 0 (some (.cells 3 [(e_TJProg p_)]))) 1 (some (.cells 4 [(e_TJFunc x_)]))) 2 (mapB (.i .i64) (fun x => cI x) (fun (x : Int) => (I x)) mp14)) 3 (some (.cells 2 [(e_TJIns x_1)]))), 4⟩
abbrev Z5g (own : Int) (x_ : TJFunc) (v82 : Int) (x_2 : TJFunc) (p_ : TJProg) (mp14 : (List (Int × Int))) (x_1 : TJIns) (F_ : Int → Option Bool) (o : Bool) (R_ : St → Prop) : Prop := ∀ (v118 : Int), F_ v118 = some o → ∀ s, Weak 0 s ⟨(ue [(118, (I v118)), (117, (I (x_2.Caught.length : Int))), (116, (.c (.ro false 1 (x_2.Caught.map eI)))), (82, (I v82)), (81, (I (x_.Code.length : Int))), (80, (.c (.ro false 2 (x_.Code.map e_TJIns)))), (9, (.c (.ref 3 2 0 0))), (7, (.c (.mp 2))), (6, (I (x_.Code.length : Int))), (5, (.c (.ref 1 4 0 0))), (2, (.c (.ref 0 3 0 0))), (1, (I own))]), (upd (upd (upd (upd e0 0 (some (.cells 3 [(e_TJProg p_)]))) 1 (some (.cells 4 [(e_TJFunc x_)]))) 2 (mapB (.i .i64) (fun x => cI x) (fun (x : Int) => (I x)) mp14)) 3 (some (.cells 2 [(e_TJIns x_1)]))), 4⟩ → R_ s
noncomputable def Z9 (x_2 : TJFunc) (x_ : TJFunc) (own : Int) (v82 : Int) (p_ : TJProg) (mp14 : (List (Int × Int))) (x_1 : TJIns) (K2_ : Unit → Option Bool) : Nat → Int → Option Bool
 | 0, _ => none
 | k + 1, v118 =>
  if decide (v118 < (x_2.Caught.length : Int)) then
   (at? x_2.Caught v118).bind fun x_3 =>
   if (!(Z3 x_3 0 (wi (x_.Slots - 1)))) then
    some false
   else
    (Z9 x_2 x_ own v82 p_ mp14 x_1 K2_ k) (wi (v118 + 1))
  else
   K2_ ()
theorem Z5h {Q : AExit → St → Prop} {x_2 : TJFunc} {x_ : TJFunc} {own : Int} {v82 : Int} {p_ : TJProg} {mp14 : (List (Int × Int))} {x_1 : TJIns} {K2_ : Unit → Option Bool} {k : Nat} {v118 : Int} {o : Bool} (h : Z9 x_2 x_ own v82 p_ mp14 x_1 K2_ k v118 = some o)
  (hK2 : Z5f own x_ v82 p_ mp14 x_1 K2_ o (Q (.exit 2)))
  (hr : ∀ s, Ends a7.results 0 (Zc o) .ret s → Q .ret s) :
  Sv Tryd.prog GG 0 (.loop a7_c1) Q ⟨(ue [(118, (I v118)), (117, (I (x_2.Caught.length : Int))), (116, (.c (.ro false 1 (x_2.Caught.map eI)))), (82, (I v82)), (81, (I (x_.Code.length : Int))), (80, (.c (.ro false 2 (x_.Code.map e_TJIns)))), (9, (.c (.ref 3 2 0 0))), (7, (.c (.mp 2))), (6, (I (x_.Code.length : Int))), (5, (.c (.ref 1 4 0 0))), (2, (.c (.ref 0 3 0 0))), (1, (I own))]), (upd (upd (upd (upd e0 0 (some (.cells 3 [(e_TJProg p_)]))) 1 (some (.cells 4 [(e_TJFunc x_)]))) 2 (mapB (.i .i64) (fun x => cI x) (fun (x : Int) => (I x)) mp14)) 3 (some (.cells 2 [(e_TJIns x_1)]))), 4⟩ := by
 refine Sv.loop (I := Z3p own x_ v82 x_2 p_ mp14 x_1 (Z9 x_2 x_ own v82 p_ mp14 x_1 K2_) o) (fun k s hI => ?_) ⟨v118, h, rfl⟩
 clear h
 clear v118
 obtain ⟨v118, h, rfl⟩ := hI
 cases k with
 | zero => cases h
 | succ k =>
 rw [Z9] at h
 have hself : Z5g own x_ v82 x_2 p_ mp14 x_1 (Z9 x_2 x_ own v82 p_ mp14 x_1 K2_ k) o (rnd 0 (Z3p own x_ v82 x_2 p_ mp14 x_1 (Z9 x_2 x_ own v82 p_ mp14 x_1 K2_) o) k Q) := fun v118 h s hw => ⟨_, k, hw, Nat.lt_succ_self k, v118, h, rfl⟩
 refine ssr <| un1 (v := (B (decide (v118 < (x_2.Caught.length : Int))))) rfl <| dnil <| Sv.seq ?_
 refine Sv.cnd rfl h (fun h => ?_) fun h => ?_
 ·refine Sv.skip <| Sv.seq <| Sv.block <| ssr ?_
  obtain ⟨x_3, hx4, h⟩ := bnd h
  refine un1 (v := (.c (.rop [cI x_3]))) (s_iaddr (e := eI) (xs := x_2.Caught) rfl rfl hx4) <| un1 (v := (I x_3)) rfl <| un1 rfl <| dnil <| ssr <| un1 rfl <| un1 (v := (.c (.ref 1 4 0 1))) rfl <| un1 (v := (I x_.Slots)) rfl <| un1 (v := (I (wi (x_.Slots - 1)))) rfl <| un <| ac_pure (Z2j x_3 0 (wi (x_.Slots - 1))) rfl rfl rfl <| un1 (v := (B (!(Z3 x_3 0 (wi (x_.Slots - 1)))))) rfl <| dnil ?_
  refine Sv.cnd rfl h (fun h => ?_) fun h => ?_
  ·refine ssr <| un1 rfl <| dnil <| Sv.ret ?_
   exact hr _ (rt0 h rfl rfl ⟨rfl, rfl, rfl⟩)
  ·refine Sv.skip <| srg <| un1 (v := (I (wi (v118 + 1)))) rfl <| un1 rfl <| dnil ?_
   exact hself (wi (v118 + 1)) h _ (wcn [0, 1, 2, 3] rfl (.cf rfl rfl (.cf rfl rfl (.cf rfl rfl (.cf rfl rfl (.cf rfl rfl (.cf rfl rfl (.cr rfl rfl rfl (.cons rfl (.c (.mp rfl (by decide))) (.cf rfl rfl (.cr rfl rfl rfl (.cr rfl rfl rfl (.cf rfl rfl .nil)))))))))))) (.box (by decide) rfl (blkAs_cells (.sm rfl (.sm rfl .nil))) (.box (by decide) rfl .map (.box (by decide) rfl (blkAs_cells (.sm rfl (.sm rfl (.sm rfl (.sm rfl .nil))))) (.box (by decide) rfl (blkAs_cells (.sm rfl (.sm rfl (.sm rfl .nil)))) .nil)))))
 ·refine Sv.exit ?_
  exact hK2 () h _ (wcn [0, 1, 2, 3] rfl (.cf rfl rfl (.cf rfl rfl (.cf rfl rfl (.cr rfl rfl rfl (.cons rfl (.c (.mp rfl (by decide))) (.cf rfl rfl (.cr rfl rfl rfl (.cr rfl rfl rfl (.cf rfl rfl .nil))))))))) (.box (by decide) rfl (blkAs_cells (.sm rfl (.sm rfl .nil))) (.box (by decide) rfl .map (.box (by decide) rfl (blkAs_cells (.sm rfl (.sm rfl (.sm rfl (.sm rfl .nil))))) (.box (by decide) rfl (blkAs_cells (.sm rfl (.sm rfl (.sm rfl .nil)))) .nil)))))
abbrev Z5i (Q : AExit → St → Prop) : AExit → St → Prop := AThen (Sv Tryd.prog GG 0 a7_c2 Q) Q
abbrev Z5j (Q : AExit → St → Prop) : AExit → St → Prop := ABlock 1 (Z5i Q)
noncomputable def Zt (x_1 : TJIns) (p_ : TJProg) (x_ : TJFunc) (own : Int) (v82 : Int) (mp14 : (List (Int × Int))) (self : Int → Option Bool) (K0_ : Unit → Option Bool) (m_ : Int) : Option Bool :=
 if ((!(Z3 x_1.Do 1 25)) || (!(Z3 x_1.A 0 (wi (m_ - 1))))) then
  some false
 else
  if decide (x_1.Do = 16) then
   (at? p_.Funcs x_1.A).bind fun x_2 =>
   lim fun kk => Z9 x_2 x_ own v82 p_ mp14 x_1 (fun (_ : Unit) => 
     if decide (x_1.A = 0) then
      some false
     else
      Z1a v82 own x_ p_ mp14 self K0_) kk 0
  else
   Z1a v82 own x_ p_ mp14 self K0_
theorem Z3q {Q : AExit → St → Prop} {x_1 : TJIns} {p_ : TJProg} {x_ : TJFunc} {own : Int} {v82 : Int} {mp14 : (List (Int × Int))} {self : Int → Option Bool} {K0_ : Unit → Option Bool} {m_ : Int} {o : Bool} (h : Zt x_1 p_ x_ own v82 mp14 self K0_ m_ = some o)
  (hself : Z2m own x_ p_ mp14 self o (Q .normal))
  (hK0 : Z2n own x_ p_ K0_ o (Q (.exit 0)))
  (hr : ∀ s, Ends a7.results 0 (Zc o) .ret s → Q .ret s) :
  Sv Tryd.prog GG 0 a7_c0 (Z5j Q) ⟨(ue [(82, (I v82)), (81, (I (x_.Code.length : Int))), (80, (.c (.ro false 2 (x_.Code.map e_TJIns)))), (10, (I m_)), (9, (.c (.ref 3 2 0 0))), (7, (.c (.mp 2))), (6, (I (x_.Code.length : Int))), (5, (.c (.ref 1 4 0 0))), (2, (.c (.ref 0 3 0 0))), (1, (I own))]), (upd (upd (upd (upd e0 0 (some (.cells 3 [(e_TJProg p_)]))) 1 (some (.cells 4 [(e_TJFunc x_)]))) 2 (mapB (.i .i64) (fun x => cI x) (fun (x : Int) => (I x)) mp14)) 3 (some (.cells 2 [(e_TJIns x_1)]))), 4⟩ := by
 unfold Zt at h
 refine Sv.seq <| ssr <| un1 (v := (.c (.ref 3 2 0 0))) rfl <| un1 (v := (I x_1.Do)) rfl <| un <| ac_pure (Z2j x_1.Do 1 25) rfl rfl rfl <| un1 (v := (B (!(Z3 x_1.Do 1 25)))) rfl <| un1 rfl ?_
 refine gjoin 7 (d := 106) (v := (B ((!(Z3 x_1.Do 1 25)) || (!(Z3 x_1.A 0 (wi (m_ - 1))))))) (fun X hX => ?_) ?_
 ·refine split2 (fun hc6 => ?_) (fun hc6 => ?_)
  ·repeat (first | refine gu rfl ?_ | refine gs rfl rfl ?_)
   refine un1 (v := (B true)) rfl <| dnil ?_
   exact hX _ (.putEq (by rw [hc6]; rfl) (by repeat (first | exact .putEq (by rw [hc6]) (.refl _) | refine .skp ?_ rfl)))
  ·refine gt rfl <| a1 (v := (.c (.ref 3 2 0 1))) rfl <| gt rfl <| a1 (v := (I x_1.A)) rfl <| gt rfl <| a1 rfl <| gt rfl <| a1 (v := (I (wi (m_ - 1)))) rfl <| gt rfl <| ac_pure (Z2j x_1.A 0 (wi (m_ - 1))) rfl rfl rfl <| gt rfl <| a1 (v := (B (!(Z3 x_1.A 0 (wi (m_ - 1)))))) rfl <| un1 (v := (B (!(Z3 x_1.A 0 (wi (m_ - 1)))))) rfl <| dnil ?_
   exact hX _ (.putEq (by rw [hc6]; rfl) (by repeat (first | exact .putEq (by rw [hc6]) (.refl _) | refine .skp ?_ rfl)))
 refine dnil ?_
 refine Sv.cnd rfl h (fun h => ?_) fun h => ?_
 ·refine ssr <| un1 rfl <| dnil <| Sv.ret ?_
  exact hr _ (rt0 h rfl rfl ⟨rfl, rfl, rfl⟩)
 ·refine Sv.skip <| ssr <| un1 (v := (.c (.ref 3 2 0 0))) rfl <| un1 (v := (I x_1.Do)) rfl <| un1 (v := (B (decide (x_1.Do = 16)))) rfl <| dnil ?_
  refine Sv.cnd rfl h (fun h => ?_) fun h => ?_
  ·refine Sv.seq <| ssr <| un1 (v := (.c (.ref 0 3 0 0))) rfl <| un1 (v := (.c (.ro false 4 (p_.Funcs.map e_TJFunc)))) rfl <| un1 (v := (.c (.ref 3 2 0 1))) rfl <| un1 (v := (I x_1.A)) rfl ?_
   obtain ⟨x_2, hx3, h⟩ := bnd h
   refine un1 (v := (.c (.rop (e_TJFunc x_2)))) (s_iaddr (e := e_TJFunc) (xs := p_.Funcs) rfl rfl hx3) <| un1 (v := (.c (.rop [.ro false 1 (x_2.Caught.map eI), .ro false 2 (x_2.Code.map e_TJIns)]))) rfl <| un1 (v := (.c (.ro false 1 (x_2.Caught.map eI)))) rfl <| un1 (v := (I (x_2.Caught.length : Int))) (s_len (e := eI) (xs := x_2.Caught) rfl) <| un1 rfl <| dnil <| Sv.block ?_
   obtain ⟨kk, h⟩ := lim_some h
   refine Sv.weak (wcn [0, 1, 2, 3] rfl (.cf rfl rfl (.cf rfl rfl (.cf rfl rfl (.cf rfl rfl (.cf rfl rfl (.cf rfl rfl (.cr rfl rfl rfl (.cons rfl (.c (.mp rfl (by decide))) (.cf rfl rfl (.cr rfl rfl rfl (.cr rfl rfl rfl (.cf rfl rfl .nil)))))))))))) (.box (by decide) rfl (blkAs_cells (.sm rfl (.sm rfl .nil))) (.box (by decide) rfl .map (.box (by decide) rfl (blkAs_cells (.sm rfl (.sm rfl (.sm rfl (.sm rfl .nil))))) (.box (by decide) rfl (blkAs_cells (.sm rfl (.sm rfl (.sm rfl .nil)))) .nil))))) (Z5h h ?_ hr)
   ·intro _ h _ hw1
    refine Sv.weak hw1 <| ssr <| un1 (v := (.c (.ref 3 2 0 1))) rfl <| un1 (v := (I x_1.A)) rfl <| un1 (v := (B (decide (x_1.A = 0)))) rfl <| dnil ?_
    refine Sv.cnd rfl h (fun h => ?_) fun h => ?_
    ·refine ssr <| un1 rfl <| dnil <| Sv.ret ?_
     exact hr _ (rt0 h rfl rfl ⟨rfl, rfl, rfl⟩)
    ·refine Sv.skip ?_
     exact Sv.weak (wcn [0, 1, 2] rfl (.cf rfl rfl (.cf rfl rfl (.cf rfl rfl (.cons rfl (.c (.mp rfl (by decide))) (.cf rfl rfl (.cr rfl rfl rfl (.cr rfl rfl rfl (.cf rfl rfl .nil)))))))) (.box (by decide) rfl .map (.box (by decide) rfl (blkAs_cells (.sm rfl (.sm rfl (.sm rfl (.sm rfl .nil))))) (.box (by decide) rfl (blkAs_cells (.sm rfl (.sm rfl (.sm rfl .nil)))) .nil)))) (Z3o h hself hK0 hr)
  ·refine Sv.skip ?_
   exact Sv.weak (wcn [0, 1, 2] rfl (.cf rfl rfl (.cf rfl rfl (.cf rfl rfl (.cons rfl (.c (.mp rfl (by decide))) (.cf rfl rfl (.cr rfl rfl rfl (.cr rfl rfl rfl (.cf rfl rfl .nil)))))))) (.box (by decide) rfl .map (.box (by decide) rfl (blkAs_cells (.sm rfl (.sm rfl (.sm rfl (.sm rfl .nil))))) (.box (by decide) rfl (blkAs_cells (.sm rfl (.sm rfl (.sm rfl .nil)))) .nil)))) (Z3o h hself hK0 hr)
abbrev Z3r (own : Int) (x_ : TJFunc) (p_ : TJProg) (mp14 : (List (Int × Int))) (F_ : Nat → Int → Option Bool) (o : Bool) : Nat → St → Prop := fun k s => ∃ (v82 : Int), F_ k v82 = some o ∧ s = ⟨(ue [(82, (I v82)), (81, (I (x_.Code.length : Int))), (80, (.c (.ro false 2 (x_.Code.map e_TJIns)))), (7, (.c (.mp 2))), (6, (I (x_.Code.length : Int))), (5, (.c (.ref 1 4 0 0))), (2, (.c (.ref 0 3 0 0))), (1, (I own))]), (upd (upd (upd e0 0 (some (.cells 3 [(e_TJProg p_)]))) 1 (some (.cells 4 [(e_TJFunc x_)]))) 2 (mapB (.i .i64) (fun x => cI x) (fun (x : Int) => (I x)) mp14)), 3⟩
noncomputable def Z2 (x_ : TJFunc) (mp14 : (List (Int × Int))) (p_ : TJProg) (own : Int) (K0_ : Unit → Option Bool) : Nat → Int → Option Bool
 | 0, _ => none
 | k + 1, v82 =>
  if decide (v82 < (x_.Code.length : Int)) then
   (at? x_.Code v82).bind fun x_1 =>
   if (!(mget mp14 x_1.Do).isSome) then
    Zt x_1 p_ x_ own v82 mp14 (Z2 x_ mp14 p_ own K0_ k) K0_ 1
   else
    Zt x_1 p_ x_ own v82 mp14 (Z2 x_ mp14 p_ own K0_ k) K0_ ((mget mp14 x_1.Do).getD (0 : Int))
  else
   K0_ ()
theorem Z5k {Q : AExit → St → Prop} {x_ : TJFunc} {mp14 : (List (Int × Int))} {p_ : TJProg} {own : Int} {K0_ : Unit → Option Bool} {k : Nat} {v82 : Int} {o : Bool} (h : Z2 x_ mp14 p_ own K0_ k v82 = some o)
  (hK0 : Z2n own x_ p_ K0_ o (Q (.exit 0)))
  (hr : ∀ s, Ends a7.results 0 (Zc o) .ret s → Q .ret s) :
  Sv Tryd.prog GG 0 (.loop a7_c3) Q ⟨(ue [(82, (I v82)), (81, (I (x_.Code.length : Int))), (80, (.c (.ro false 2 (x_.Code.map e_TJIns)))), (7, (.c (.mp 2))), (6, (I (x_.Code.length : Int))), (5, (.c (.ref 1 4 0 0))), (2, (.c (.ref 0 3 0 0))), (1, (I own))]), (upd (upd (upd e0 0 (some (.cells 3 [(e_TJProg p_)]))) 1 (some (.cells 4 [(e_TJFunc x_)]))) 2 (mapB (.i .i64) (fun x => cI x) (fun (x : Int) => (I x)) mp14)), 3⟩ := by
 refine Sv.loop (I := Z3r own x_ p_ mp14 (Z2 x_ mp14 p_ own K0_) o) (fun k s hI => ?_) ⟨v82, h, rfl⟩
 clear h
 clear v82
 obtain ⟨v82, h, rfl⟩ := hI
 cases k with
 | zero => cases h
 | succ k =>
 rw [Z2] at h
 have hself : Z2m own x_ p_ mp14 (Z2 x_ mp14 p_ own K0_ k) o (rnd 0 (Z3r own x_ p_ mp14 (Z2 x_ mp14 p_ own K0_) o) k Q) := fun v82 h s hw => ⟨_, k, hw, Nat.lt_succ_self k, v82, h, rfl⟩
 refine ssr <| un1 (v := (B (decide (v82 < (x_.Code.length : Int))))) rfl <| dnil <| Sv.seq ?_
 refine Sv.cnd rfl h (fun h => ?_) fun h => ?_
 ·refine Sv.skip <| Sv.seq <| Sv.block <| ssr ?_
  obtain ⟨x_1, hx2, h⟩ := bnd h
  refine un1 (v := (.c (.rop (e_TJIns x_1)))) (s_iaddr (e := e_TJIns) (xs := x_.Code) rfl rfl hx2) <| un1 (v := (.agg (e_TJIns x_1))) rfl <| un <| a2v (v := (.c (.ref 3 2 0 0))) (h' := upd _ 3 (some (.cells 2 [[cI 0, cI 0]]))) (n' := 4) rfl rfl hcs <| un <| a2n (h' := upd _ 3 (some (.cells 2 [(e_TJIns x_1)]))) (n' := 4) rfl rfl hcs <| dnil <| ssr <| un1 rfl <| un1 (v := (.c (.ref 3 2 0 0))) rfl <| un1 (v := (I x_1.Do)) rfl <| un1 (v := (.tup [(I ((mget mp14 x_1.Do).getD (0 : Int))), (B ((mget mp14 x_1.Do).isSome))])) (s_mlook2 (ek := (fun x => cI x)) (ev := (fun (x : Int) => (I x))) (l := mp14) (key := x_1.Do) (z := 0) (fun _ _ => rfl) rfl rfl rfl rfl rfl) <| un1 rfl <| un1 (v := (I ((mget mp14 x_1.Do).getD (0 : Int)))) rfl <| un1 (v := (B ((mget mp14 x_1.Do).isSome))) rfl <| un1 rfl <| un1 rfl <| dnil <| Sv.seq <| ssr <| un1 rfl <| un1 (v := (B (!(mget mp14 x_1.Do).isSome))) rfl <| dnil ?_
  refine Sv.cnd rfl h (fun h => ?_) fun h => ?_
  ·refine srg <| un1 rfl <| dnil ?_
   exact Sv.weak (wcn [0, 1, 2, 3] rfl (.cf rfl rfl (.cf rfl rfl (.cf rfl rfl (.cf rfl rfl (.cr rfl rfl rfl (.cons rfl (.c (.mp rfl (by decide))) (.cf rfl rfl (.cr rfl rfl rfl (.cr rfl rfl rfl (.cf rfl rfl .nil)))))))))) (.box (by decide) rfl (blkAs_cells (.sm rfl (.sm rfl .nil))) (.box (by decide) rfl .map (.box (by decide) rfl (blkAs_cells (.sm rfl (.sm rfl (.sm rfl (.sm rfl .nil))))) (.box (by decide) rfl (blkAs_cells (.sm rfl (.sm rfl (.sm rfl .nil)))) .nil))))) (Z3q h hself hK0 hr)
  ·refine Sv.skip ?_
   exact Sv.weak (wcn [0, 1, 2, 3] rfl (.cf rfl rfl (.cf rfl rfl (.cf rfl rfl (.cf rfl rfl (.cr rfl rfl rfl (.cons rfl (.c (.mp rfl (by decide))) (.cf rfl rfl (.cr rfl rfl rfl (.cr rfl rfl rfl (.cf rfl rfl .nil)))))))))) (.box (by decide) rfl (blkAs_cells (.sm rfl (.sm rfl .nil))) (.box (by decide) rfl .map (.box (by decide) rfl (blkAs_cells (.sm rfl (.sm rfl (.sm rfl (.sm rfl .nil))))) (.box (by decide) rfl (blkAs_cells (.sm rfl (.sm rfl (.sm rfl .nil)))) .nil))))) (Z3q h hself hK0 hr)
 ·refine Sv.exit ?_
  exact hK0 () h _ (wcn [0, 1] rfl (.cf rfl rfl (.cr rfl rfl rfl (.cr rfl rfl rfl (.cf rfl rfl .nil)))) (.box (by decide) rfl (blkAs_cells (.sm rfl (.sm rfl (.sm rfl (.sm rfl .nil))))) (.box (by decide) rfl (blkAs_cells (.sm rfl (.sm rfl (.sm rfl .nil)))) .nil)))
abbrev Z28 (own : Int) (x_ : TJFunc) (p_ : TJProg) (F_ : (List Tat) → Bool → Int → Option Bool) (o : Bool) (R_ : St → Prop) : Prop := ∀ (all_1 : (List Tat)) (more1 : Bool) (v143 : Int) (zall_1 : Bool) (_ : zall_1 = true → all_1 = []), F_ all_1 more1 v143 = some o → ∀ s, Weak 0 s ⟨(ue [(143, (I v143)), (142, (I (x_.Code.length : Int))), (141, (.c (.ro false 2 (x_.Code.map e_TJIns)))), (15, (B more1)), (14, (lstV zall_1 2 3 all_1.length)), (6, (I (x_.Code.length : Int))), (5, (.c (.ref 1 4 0 0))), (2, (.c (.ref 0 3 0 0))), (1, (I own))]), (upd (upd (upd e0 0 (some (.cells 3 [(e_TJProg p_)]))) 1 (some (.cells 4 [(e_TJFunc x_)]))) 2 (lstB zall_1 3 (all_1.map e_Tat))), 3⟩ → R_ s
abbrev Z29 (own : Int) (x_ : TJFunc) (p_ : TJProg) (F_ : (List Tat) → Bool → Option Bool) (o : Bool) (R_ : St → Prop) : Prop := ∀ (all_2 : (List Tat)) (more2 : Bool) (zall_2 : Bool) (_ : zall_2 = true → all_2 = []), F_ all_2 more2 = some o → ∀ s, Weak 0 s ⟨(ue [(15, (B more2)), (14, (lstV zall_2 2 3 all_2.length)), (6, (I (x_.Code.length : Int))), (5, (.c (.ref 1 4 0 0))), (2, (.c (.ref 0 3 0 0))), (1, (I own))]), (upd (upd (upd e0 0 (some (.cells 3 [(e_TJProg p_)]))) 1 (some (.cells 4 [(e_TJFunc x_)]))) 2 (lstB zall_2 3 (all_2.map e_Tat))), 3⟩ → R_ s
noncomputable def Z1b (v143 : Int) (own : Int) (x_ : TJFunc) (p_ : TJProg) (self : (List Tat) → Bool → Int → Option Bool) (K6_ : (List Tat) → Bool → Option Bool) (all_3 : (List Tat)) (more3 : Bool) : Option Bool :=
 self all_3 more3 (wi (v143 + 1))
theorem Z3s {Q : AExit → St → Prop} {v143 : Int} {own : Int} {x_ : TJFunc} {p_ : TJProg} {self : (List Tat) → Bool → Int → Option Bool} {K6_ : (List Tat) → Bool → Option Bool} {all_3 : (List Tat)} {more3 : Bool} {zall_3 : Bool} (hzall_3 : zall_3 = true → all_3 = []) {o : Bool} (h : Z1b v143 own x_ p_ self K6_ all_3 more3 = some o)
  (hself : Z28 own x_ p_ self o (Q .normal))
  (hK6 : Z29 own x_ p_ K6_ o (Q (.exit 6)))
  (hr : ∀ s, Ends a7.results 0 (Zc o) .ret s → Q .ret s) :
  Sv Tryd.prog GG 0 a7_c5 Q ⟨(ue [(143, (I v143)), (142, (I (x_.Code.length : Int))), (141, (.c (.ro false 2 (x_.Code.map e_TJIns)))), (15, (B more3)), (14, (lstV zall_3 2 3 all_3.length)), (6, (I (x_.Code.length : Int))), (5, (.c (.ref 1 4 0 0))), (2, (.c (.ref 0 3 0 0))), (1, (I own))]), (upd (upd (upd e0 0 (some (.cells 3 [(e_TJProg p_)]))) 1 (some (.cells 4 [(e_TJFunc x_)]))) 2 (lstB zall_3 3 (all_3.map e_Tat))), 3⟩ := by
 unfold Z1b at h
 refine srg <| un1 (v := (I (wi (v143 + 1)))) rfl <| un1 rfl <| dnil ?_
 exact hself all_3 more3 (wi (v143 + 1)) zall_3 hzall_3 h _ (wcn [0, 1, 2] rfl (.cf rfl rfl (.cf rfl rfl (.cf rfl rfl (.cf rfl rfl (.cons rfl (.c (lsr rfl rfl)) (.cf rfl rfl (.cr rfl rfl rfl (.cr rfl rfl rfl (.cf rfl rfl .nil))))))))) (.row (by decide) rfl (fr_map fun _ => rfl) (.box (by decide) rfl (blkAs_cells (.sm rfl (.sm rfl (.sm rfl (.sm rfl .nil))))) (.box (by decide) rfl (blkAs_cells (.sm rfl (.sm rfl (.sm rfl .nil)))) .nil))))
abbrev Z2o (own : Int) (x_ : TJFunc) (v143 : Int) (p_ : TJProg) (F_ : (List Tat) → Bool → (List (Int × Tat)) → Option Bool) (o : Bool) (R_ : St → Prop) : Prop := ∀ (all_5 : (List Tat)) (more4 : Bool) (left : (List (Int × Tat))) (zall_5 : Bool) (_ : zall_5 = true → all_5 = []), F_ all_5 more4 left = some o → ∀ s, Weak 0 s ⟨(ue [(274, (.c (.ref 3 0 0 0))), (143, (I v143)), (142, (I (x_.Code.length : Int))), (141, (.c (.ro false 2 (x_.Code.map e_TJIns)))), (15, (B more4)), (14, (lstV zall_5 2 3 all_5.length)), (6, (I (x_.Code.length : Int))), (5, (.c (.ref 1 4 0 0))), (2, (.c (.ref 0 3 0 0))), (1, (I own))]), (upd (upd (upd (upd e0 0 (some (.cells 3 [(e_TJProg p_)]))) 1 (some (.cells 4 [(e_TJFunc x_)]))) 2 (lstB zall_5 3 (all_5.map e_Tat))) 3 (mitB (.i .i64) (fun x => cI x) (fun (x : Tat) => (.agg (e_Tat x))) none left)), 4⟩ → R_ s
abbrev Z2p (own : Int) (x_ : TJFunc) (v143 : Int) (p_ : TJProg) (F_ : (List Tat) → Bool → Option Bool) (o : Bool) (R_ : St → Prop) : Prop := ∀ (all_6 : (List Tat)) (more5 : Bool) (zall_6 : Bool) (_ : zall_6 = true → all_6 = []), F_ all_6 more5 = some o → ∀ s, Weak 0 s ⟨(ue [(143, (I v143)), (142, (I (x_.Code.length : Int))), (141, (.c (.ro false 2 (x_.Code.map e_TJIns)))), (15, (B more5)), (14, (lstV zall_6 2 3 all_6.length)), (6, (I (x_.Code.length : Int))), (5, (.c (.ref 1 4 0 0))), (2, (.c (.ref 0 3 0 0))), (1, (I own))]), (upd (upd (upd e0 0 (some (.cells 3 [(e_TJProg p_)]))) 1 (some (.cells 4 [(e_TJFunc x_)]))) 2 (lstB zall_6 3 (all_6.map e_Tat))), 3⟩ → R_ s
abbrev Z2q (Q : AExit → St → Prop) : AExit → St → Prop := ABlock 10 Q
noncomputable def Z1c (p_1 : (Int × Tat)) (left1 : (List (Int × Tat))) (own : Int) (x_ : TJFunc) (v143 : Int) (p_ : TJProg) (self : (List Tat) → Bool → (List (Int × Tat)) → Option Bool) (K9_ : (List Tat) → Bool → Option Bool) (all_8 : (List Tat)) (more6 : Bool) : Option Bool :=
 (at? all_8 p_1.1).bind fun x_7 =>
 self (all_8.set p_1.1.toNat p_1.2) more6 left1
theorem Z3t {Q : AExit → St → Prop} {p_1 : (Int × Tat)} {left1 : (List (Int × Tat))} {own : Int} {x_ : TJFunc} {v143 : Int} {p_ : TJProg} {self : (List Tat) → Bool → (List (Int × Tat)) → Option Bool} {K9_ : (List Tat) → Bool → Option Bool} {all_8 : (List Tat)} {more6 : Bool} {zall_8 : Bool} (hzall_8 : zall_8 = true → all_8 = []) {o : Bool} (h : Z1c p_1 left1 own x_ v143 p_ self K9_ all_8 more6 = some o)
  (hself : Z2o own x_ v143 p_ self o (Q .normal))
  (hK9 : Z2p own x_ v143 p_ K9_ o (Q (.exit 9)))
  (hr : ∀ s, Ends a7.results 0 (Zc o) .ret s → Q .ret s) :
  Sv Tryd.prog GG 0 a7_c9 (Z2q Q) ⟨(ue [(274, (.c (.ref 4 0 0 0))), (143, (I v143)), (142, (I (x_.Code.length : Int))), (141, (.c (.ro false 2 (x_.Code.map e_TJIns)))), (24, (.c (.ref 3 3 0 0))), (23, (I p_1.1)), (15, (B more6)), (14, (lstV zall_8 2 3 all_8.length)), (6, (I (x_.Code.length : Int))), (5, (.c (.ref 1 4 0 0))), (2, (.c (.ref 0 3 0 0))), (1, (I own))]), (upd (upd (upd (upd (upd e0 0 (some (.cells 3 [(e_TJProg p_)]))) 1 (some (.cells 4 [(e_TJFunc x_)]))) 2 (lstB zall_8 3 (all_8.map e_Tat))) 3 (some (.cells 3 [(e_Tat p_1.2)]))) 4 (mitB (.i .i64) (fun x => cI x) (fun (x : Tat) => (.agg (e_Tat x))) none left1)), 5⟩ := by
 unfold Z1c at h
 refine srg <| un1 rfl <| un1 rfl <| un1 (v := (.agg (e_Tat p_1.2))) rfl ?_
 obtain ⟨x_7, hx9, h⟩ := bnd h
 refine un1 (v := (.c (.ref 2 3 p_1.1.toNat 0))) (s_iaddrL rfl rfl hzall_8 hx9) <| un <| a2n (h' := upd _ 2 (lstB zall_8 3 ((all_8.set p_1.1.toNat p_1.2).map e_Tat))) (n' := 5) rfl (s_storeL (e := e_Tat) (q' := p_1.2) rfl rfl hzall_8 hx9 rfl rfl rfl (Nat.le_of_ble_eq_true rfl) rfl) hcs ?_
 try rw [len_set all_8 p_1.1.toNat p_1.2]
 refine dnil ?_
 exact hself (all_8.set p_1.1.toNat p_1.2) more6 left1 zall_8 (hz_len hzall_8 (len_set all_8 p_1.1.toNat p_1.2)) h _ (wcn [0, 1, 2, 4] rfl (.cr rfl rfl rfl (.cf rfl rfl (.cf rfl rfl (.cf rfl rfl (.cf rfl rfl (.cons rfl (.c (lsr rfl rfl)) (.cf rfl rfl (.cr rfl rfl rfl (.cr rfl rfl rfl (.cf rfl rfl .nil)))))))))) (.box (by decide) rfl (.mit (.inl rfl)) (.row (by decide) rfl (fr_map fun _ => rfl) (.box (by decide) rfl (blkAs_cells (.sm rfl (.sm rfl (.sm rfl (.sm rfl .nil))))) (.box (by decide) rfl (blkAs_cells (.sm rfl (.sm rfl (.sm rfl .nil)))) .nil)))))
abbrev Z5l (Q : AExit → St → Prop) : AExit → St → Prop := AThen (Sv Tryd.prog GG 0 a7_c8 (Z2q Q)) (Z2q Q)
noncomputable def Zf (more4 : Bool) (p_1 : (Int × Tat)) (left1 : (List (Int × Tat))) (own : Int) (x_ : TJFunc) (v143 : Int) (p_ : TJProg) (self : (List Tat) → Bool → (List (Int × Tat)) → Option Bool) (K9_ : (List Tat) → Bool → Option Bool) (all_7 : (List Tat)) (v308 : Bool) : Option Bool :=
 if v308 then
  some false
 else
  if more4 then
   Z1c p_1 left1 own x_ v143 p_ self K9_ all_7 true
  else
   (at? all_7 p_1.1).bind fun x_8 =>
   Z1c p_1 left1 own x_ v143 p_ self K9_ all_7 (!x_8.f_known)
theorem Z2r {Q : AExit → St → Prop} {more4 : Bool} {p_1 : (Int × Tat)} {left1 : (List (Int × Tat))} {own : Int} {x_ : TJFunc} {v143 : Int} {p_ : TJProg} {self : (List Tat) → Bool → (List (Int × Tat)) → Option Bool} {K9_ : (List Tat) → Bool → Option Bool} {all_7 : (List Tat)} {v308 : Bool} {zall_7 : Bool} (hzall_7 : zall_7 = true → all_7 = []) {o : Bool} (h : Zf more4 p_1 left1 own x_ v143 p_ self K9_ all_7 v308 = some o)
  (hself : Z2o own x_ v143 p_ self o (Q .normal))
  (hK9 : Z2p own x_ v143 p_ K9_ o (Q (.exit 9)))
  (hr : ∀ s, Ends a7.results 0 (Zc o) .ret s → Q .ret s) :
  Sv Tryd.prog GG 0 a7_c7 (Z5l Q) ⟨(ue [(308, (B v308)), (274, (.c (.ref 4 0 0 0))), (143, (I v143)), (142, (I (x_.Code.length : Int))), (141, (.c (.ro false 2 (x_.Code.map e_TJIns)))), (24, (.c (.ref 3 3 0 0))), (23, (I p_1.1)), (15, (B more4)), (14, (lstV zall_7 2 3 all_7.length)), (6, (I (x_.Code.length : Int))), (5, (.c (.ref 1 4 0 0))), (2, (.c (.ref 0 3 0 0))), (1, (I own))]), (upd (upd (upd (upd (upd e0 0 (some (.cells 3 [(e_TJProg p_)]))) 1 (some (.cells 4 [(e_TJFunc x_)]))) 2 (lstB zall_7 3 (all_7.map e_Tat))) 3 (some (.cells 3 [(e_Tat p_1.2)]))) 4 (mitB (.i .i64) (fun x => cI x) (fun (x : Tat) => (.agg (e_Tat x))) none left1)), 5⟩ := by
 unfold Zf at h
 refine Sv.cnd rfl h (fun h => ?_) fun h => ?_
 ·refine ssr <| un1 rfl <| dnil <| Sv.ret ?_
  exact hr _ (rt0 h rfl rfl ⟨rfl, rfl, rfl⟩)
 ·refine Sv.skip <| ssr <| un1 rfl <| un1 rfl ?_
  refine spl h (fun h => ?_) fun h => ?_
  ·repeat (first | refine gu rfl ?_ | refine gs rfl rfl ?_)
   refine un1 (v := (B true)) rfl <| un1 rfl <| dnil ?_
   exact Sv.weak (wcn [0, 1, 2, 3, 4] rfl (.cr rfl rfl rfl (.cf rfl rfl (.cf rfl rfl (.cf rfl rfl (.cr rfl rfl rfl (.cf rfl rfl (.cf rfl rfl (.cons rfl (.c (lsr rfl rfl)) (.cf rfl rfl (.cr rfl rfl rfl (.cr rfl rfl rfl (.cf rfl rfl .nil)))))))))))) (.box (by decide) rfl (.mit (.inl rfl)) (.box (by decide) rfl (blkAs_cells (.sm rfl (.sm rfl (.sm rfl .nil)))) (.row (by decide) rfl (fr_map fun _ => rfl) (.box (by decide) rfl (blkAs_cells (.sm rfl (.sm rfl (.sm rfl (.sm rfl .nil))))) (.box (by decide) rfl (blkAs_cells (.sm rfl (.sm rfl (.sm rfl .nil)))) .nil)))))) (Z3t hzall_7 h hself hK9 hr)
  ·refine gt rfl <| a1 rfl <| gt rfl <| a1 rfl ?_
   obtain ⟨x_8, hx10, h⟩ := bnd h
   refine gt rfl <| a1 (v := (.c (.ref 2 3 p_1.1.toNat 0))) (s_iaddrL rfl rfl hzall_7 hx10) <| gt rfl <| a1 (v := (.c (.ref 2 3 p_1.1.toNat 0))) rfl <| gt rfl <| a1 (v := (B x_8.f_known)) (s_loadL (z := zall_7) (e := e_Tat) rfl rfl hzall_7 hx10 rfl rfl) <| gt rfl <| a1 (v := (B (!x_8.f_known))) rfl <| un1 (v := (B (!x_8.f_known))) rfl <| un1 rfl <| dnil ?_
   exact Sv.weak (wcn [0, 1, 2, 3, 4] rfl (.cr rfl rfl rfl (.cf rfl rfl (.cf rfl rfl (.cf rfl rfl (.cr rfl rfl rfl (.cf rfl rfl (.cf rfl rfl (.cons rfl (.c (lsr rfl rfl)) (.cf rfl rfl (.cr rfl rfl rfl (.cr rfl rfl rfl (.cf rfl rfl .nil)))))))))))) (.box (by decide) rfl (.mit (.inl rfl)) (.box (by decide) rfl (blkAs_cells (.sm rfl (.sm rfl (.sm rfl .nil)))) (.row (by decide) rfl (fr_map fun _ => rfl) (.box (by decide) rfl (blkAs_cells (.sm rfl (.sm rfl (.sm rfl (.sm rfl .nil))))) (.box (by decide) rfl (blkAs_cells (.sm rfl (.sm rfl (.sm rfl .nil)))) .nil)))))) (Z3t hzall_7 h hself hK9 hr)
abbrev Z3u (own : Int) (x_ : TJFunc) (v143 : Int) (p_ : TJProg) (F_ : Nat → (List Tat) → Bool → (List (Int × Tat)) → Option Bool) (o : Bool) : Nat → St → Prop := fun k s => ∃ (all_5 : (List Tat)), ∃ (more4 : Bool), ∃ (left : (List (Int × Tat))), ∃ (zall_5 : Bool), (zall_5 = true → all_5 = []) ∧ F_ k all_5 more4 left = some o ∧ s = ⟨(ue [(274, (.c (.ref 3 0 0 0))), (143, (I v143)), (142, (I (x_.Code.length : Int))), (141, (.c (.ro false 2 (x_.Code.map e_TJIns)))), (15, (B more4)), (14, (lstV zall_5 2 3 all_5.length)), (6, (I (x_.Code.length : Int))), (5, (.c (.ref 1 4 0 0))), (2, (.c (.ref 0 3 0 0))), (1, (I own))]), (upd (upd (upd (upd e0 0 (some (.cells 3 [(e_TJProg p_)]))) 1 (some (.cells 4 [(e_TJFunc x_)]))) 2 (lstB zall_5 3 (all_5.map e_Tat))) 3 (mitB (.i .i64) (fun x => cI x) (fun (x : Tat) => (.agg (e_Tat x))) none left)), 4⟩
noncomputable def Z1 (x_ : TJFunc) (own : Int) (v143 : Int) (p_ : TJProg) (K9_ : (List Tat) → Bool → Option Bool) : Nat → (List Tat) → Bool → (List (Int × Tat)) → Option Bool
 | 0, _, _, _ => none
 | k + 1, all_5, more4, left =>
  pickM left
   (K9_ all_5 more4)
   fun (p_1 : (Int × Tat)) (left1 : (List (Int × Tat))) =>
   if decide ((x_.Code.length : Int) ≤ p_1.1) then
    some false
   else
    (at? all_5 p_1.1).bind fun x_9 =>
    if x_9.f_known then
     (at? all_5 p_1.1).bind fun x_10 =>
     if (!decide (x_10.f_height = p_1.2.f_height)) then
      Zf more4 p_1 left1 own x_ v143 p_ (Z1 x_ own v143 p_ K9_ k) K9_ all_5 true
     else
      (at? all_5 p_1.1).bind fun x_11 =>
      (Z19 x_11.f_tries p_1.2.f_tries).bind fun r_1 =>
      Zf more4 p_1 left1 own x_ v143 p_ (Z1 x_ own v143 p_ K9_ k) K9_ all_5 (!r_1)
    else
     Zf more4 p_1 left1 own x_ v143 p_ (Z1 x_ own v143 p_ K9_ k) K9_ all_5 false
theorem Z5m {Q : AExit → St → Prop} {x_ : TJFunc} {own : Int} {v143 : Int} {p_ : TJProg} {K9_ : (List Tat) → Bool → Option Bool} {k : Nat} {all_5 : (List Tat)} {more4 : Bool} {left : (List (Int × Tat))} {zall_5 : Bool} (hzall_5 : zall_5 = true → all_5 = []) {o : Bool} (h : Z1 x_ own v143 p_ K9_ k all_5 more4 left = some o)
  (hK9 : Z2p own x_ v143 p_ K9_ o (Q (.exit 9)))
  (hr : ∀ s, Ends a7.results 0 (Zc o) .ret s → Q .ret s) :
  Sv Tryd.prog GG 0 (.loop a7_c10) Q ⟨(ue [(274, (.c (.ref 3 0 0 0))), (143, (I v143)), (142, (I (x_.Code.length : Int))), (141, (.c (.ro false 2 (x_.Code.map e_TJIns)))), (15, (B more4)), (14, (lstV zall_5 2 3 all_5.length)), (6, (I (x_.Code.length : Int))), (5, (.c (.ref 1 4 0 0))), (2, (.c (.ref 0 3 0 0))), (1, (I own))]), (upd (upd (upd (upd e0 0 (some (.cells 3 [(e_TJProg p_)]))) 1 (some (.cells 4 [(e_TJFunc x_)]))) 2 (lstB zall_5 3 (all_5.map e_Tat))) 3 (mitB (.i .i64) (fun x => cI x) (fun (x : Tat) => (.agg (e_Tat x))) none left)), 4⟩ := by
 refine Sv.loop (I := Z3u own x_ v143 p_ (Z1 x_ own v143 p_ K9_) o) (fun k s hI => ?_) ⟨all_5, more4, left, zall_5, hzall_5, h, rfl⟩
 clear h
 clear hzall_5 zall_5 left more4 all_5
 obtain ⟨all_5, more4, left, zall_5, hzall_5, h, rfl⟩ := hI
 cases k with
 | zero => cases h
 | succ k =>
 rw [Z1] at h
 have hself : Z2o own x_ v143 p_ (Z1 x_ own v143 p_ K9_ k) o (rnd 0 (Z3u own x_ v143 p_ (Z1 x_ own v143 p_ K9_) o) k Q) := fun all_5 more4 left zall_5 hzall_5 h s hw => ⟨_, k, hw, Nat.lt_succ_self k, all_5, more4, left, zall_5, hzall_5, h, rfl⟩
 refine ssr ?_
 refine un (a_nextM (ek := (fun x => cI x)) (ev := (fun (x : Tat) => (.agg (e_Tat x)))) (la := none) (l := left) rfl rfl (fun hl => ?_) (fun i_ p_1 hi => ?_))
 ·replace h := pickM_nil h hl
  refine un1 (v := (B false)) rfl <| dnil <| Sv.seq <| Sv.condF rfl <| Sv.exit ?_
  exact hK9 all_5 more4 zall_5 hzall_5 h _ (wcn [0, 1, 2] rfl (.cf rfl rfl (.cf rfl rfl (.cf rfl rfl (.cf rfl rfl (.cons rfl (.c (lsr rfl rfl)) (.cf rfl rfl (.cr rfl rfl rfl (.cr rfl rfl rfl (.cf rfl rfl .nil))))))))) (.row (by decide) rfl (fr_map fun _ => rfl) (.box (by decide) rfl (blkAs_cells (.sm rfl (.sm rfl (.sm rfl (.sm rfl .nil))))) (.box (by decide) rfl (blkAs_cells (.sm rfl (.sm rfl (.sm rfl .nil)))) .nil))))
 ·replace h := pickM_at h hi
  generalize List.eraseIdx left i_ = left1 at h ⊢
  refine un1 (v := (B true)) rfl <| dnil <| Sv.seq <| Sv.condT rfl <| Sv.skip <| Sv.block <| ssr <| un <| a2v (v := (.tup [(I p_1.1), (.agg (e_Tat p_1.2))])) (n' := 4) rfl (s_entryM (ek := (fun x => cI x)) (ev := (fun (x : Tat) => (.agg (e_Tat x)))) (p := p_1) (l := left1) rfl rfl) hcs <| un1 (v := (I p_1.1)) rfl <| un1 (v := (.agg (e_Tat p_1.2))) rfl <| un <| a2v (v := (.c (.ref 4 3 0 0))) (h' := upd _ 4 (some (.cells 3 [[cB false, cI 0, .ro true 2 []]]))) (n' := 5) rfl rfl hcs <| un1 rfl <| un <| a2n (h' := upd _ 4 (some (.cells 3 [(e_Tat p_1.2)]))) (n' := 5) rfl rfl hcs <| dnil <| Sv.seq <| ssr <| un1 rfl <| un1 rfl <| un1 (v := (B (decide ((x_.Code.length : Int) ≤ p_1.1)))) rfl <| dnil ?_
  refine Sv.cnd rfl h (fun h => ?_) fun h => ?_
  ·refine ssr <| un1 rfl <| dnil <| Sv.ret ?_
   exact hr _ (rt0 h rfl rfl ⟨rfl, rfl, rfl⟩)
  ·refine Sv.skip <| Sv.seq <| Sv.seq <| Sv.drawn <| un1 rfl <| un1 rfl ?_
   obtain ⟨x_9, hx11, h⟩ := bnd h
   refine un1 (v := (.c (.ref 2 3 p_1.1.toNat 0))) (s_iaddrL rfl rfl hzall_5 hx11) <| un1 (v := (.c (.ref 2 3 p_1.1.toNat 0))) rfl <| un1 (v := (B x_9.f_known)) (s_loadL (z := zall_5) (e := e_Tat) rfl rfl hzall_5 hx11 rfl rfl) <| un1 rfl ?_
   refine spl h (fun h => ?_) fun h => ?_
   ·refine gt rfl <| a1 rfl <| gt rfl <| a1 rfl ?_
    obtain ⟨x_10, hx12, h⟩ := bnd h
    refine gt rfl <| a1 (v := (.c (.ref 2 3 p_1.1.toNat 0))) (s_iaddrL rfl rfl hzall_5 hx12) <| gt rfl <| a1 (v := (.c (.ref 2 3 p_1.1.toNat 1))) rfl <| gt rfl <| a1 (v := (I x_10.f_height)) (s_loadL (z := zall_5) (e := e_Tat) rfl rfl hzall_5 hx12 rfl rfl) <| gt rfl <| a1 (v := (.c (.ref 4 3 0 1))) rfl <| gt rfl <| a1 (v := (I p_1.2.f_height)) rfl <| gt rfl <| a1 (v := (B (!decide (x_10.f_height = p_1.2.f_height)))) rfl <| gt rfl <| a1 rfl ?_
    refine spl h (fun h => ?_) fun h => ?_
    ·repeat (first | refine gu rfl ?_ | refine gs rfl rfl ?_)
     refine gt rfl <| a1 (v := (B true)) rfl <| un1 (v := (B true)) rfl <| dnil ?_
     exact Sv.weak (wcn [0, 1, 2, 4, 3] rfl (.cf rfl rfl (.cr rfl rfl rfl (.cf rfl rfl (.cf rfl rfl (.cf rfl rfl (.cr rfl rfl rfl (.cf rfl rfl (.cf rfl rfl (.cons rfl (.c (lsr rfl rfl)) (.cf rfl rfl (.cr rfl rfl rfl (.cr rfl rfl rfl (.cf rfl rfl .nil))))))))))))) (.box (by decide) rfl (.mit (.inr rfl)) (.box (by decide) rfl (blkAs_cells (.sm rfl (.sm rfl (.sm rfl .nil)))) (.row (by decide) rfl (fr_map fun _ => rfl) (.box (by decide) rfl (blkAs_cells (.sm rfl (.sm rfl (.sm rfl (.sm rfl .nil))))) (.box (by decide) rfl (blkAs_cells (.sm rfl (.sm rfl (.sm rfl .nil)))) .nil)))))) (Z2r hzall_5 h hself hK9 hr)
    ·refine gt rfl <| a1 rfl <| gt rfl <| a1 rfl ?_
     obtain ⟨x_11, hx13, h⟩ := bnd h
     refine gt rfl <| a1 (v := (.c (.ref 2 3 p_1.1.toNat 0))) (s_iaddrL rfl rfl hzall_5 hx13) <| gt rfl <| a1 (v := (.c (.ref 2 3 p_1.1.toNat 2))) rfl <| gt rfl <| a1 (v := (.c (.ro false 2 (x_11.f_tries.map (eA2 eI))))) (s_loadL (z := zall_5) (e := e_Tat) rfl rfl hzall_5 hx13 rfl rfl) <| gt rfl <| a1 (v := (.c (.ref 4 3 0 2))) rfl <| gt rfl <| a1 (v := (.c (.ro false 2 (p_1.2.f_tries.map (eA2 eI))))) rfl ?_
     obtain ⟨r_1, hr2, h⟩ := bnd h
     refine gt rfl <| ac_pure (Z5e hr2) rfl rfl rfl <| gt rfl <| a1 (v := (B (!r_1))) rfl <| gt rfl <| a1 (v := (B (!r_1))) rfl <| un1 (v := (B (!r_1))) rfl <| dnil ?_
     exact Sv.weak (wcn [0, 1, 2, 4, 3] rfl (.cf rfl rfl (.cr rfl rfl rfl (.cf rfl rfl (.cf rfl rfl (.cf rfl rfl (.cr rfl rfl rfl (.cf rfl rfl (.cf rfl rfl (.cons rfl (.c (lsr rfl rfl)) (.cf rfl rfl (.cr rfl rfl rfl (.cr rfl rfl rfl (.cf rfl rfl .nil))))))))))))) (.box (by decide) rfl (.mit (.inr rfl)) (.box (by decide) rfl (blkAs_cells (.sm rfl (.sm rfl (.sm rfl .nil)))) (.row (by decide) rfl (fr_map fun _ => rfl) (.box (by decide) rfl (blkAs_cells (.sm rfl (.sm rfl (.sm rfl (.sm rfl .nil))))) (.box (by decide) rfl (blkAs_cells (.sm rfl (.sm rfl (.sm rfl .nil)))) .nil)))))) (Z2r hzall_5 h hself hK9 hr)
   ·repeat (first | refine gu rfl ?_ | refine gs rfl rfl ?_)
    refine un1 (v := (B false)) rfl <| dnil ?_
    exact Sv.weak (wcn [0, 1, 2, 4, 3] rfl (.cf rfl rfl (.cr rfl rfl rfl (.cf rfl rfl (.cf rfl rfl (.cf rfl rfl (.cr rfl rfl rfl (.cf rfl rfl (.cf rfl rfl (.cons rfl (.c (lsr rfl rfl)) (.cf rfl rfl (.cr rfl rfl rfl (.cr rfl rfl rfl (.cf rfl rfl .nil))))))))))))) (.box (by decide) rfl (.mit (.inr rfl)) (.box (by decide) rfl (blkAs_cells (.sm rfl (.sm rfl (.sm rfl .nil)))) (.row (by decide) rfl (fr_map fun _ => rfl) (.box (by decide) rfl (blkAs_cells (.sm rfl (.sm rfl (.sm rfl (.sm rfl .nil))))) (.box (by decide) rfl (blkAs_cells (.sm rfl (.sm rfl (.sm rfl .nil)))) .nil)))))) (Z2r hzall_5 h hself hK9 hr)
abbrev Z5n (Q : AExit → St → Prop) : AExit → St → Prop := AThen (Sv Tryd.prog GG 0 a7_c5 Q) Q
abbrev Z2s (Q : AExit → St → Prop) : AExit → St → Prop := ABlock 7 (Z5n Q)
noncomputable def Z6 (x_ : TJFunc) (own : Int) (v143 : Int) (p_ : TJProg) (more1 : Bool) (self : (List Tat) → Bool → Int → Option Bool) (K6_ : (List Tat) → Bool → Option Bool) (all_4 : (List Tat)) (to_ : (List (Int × Tat))) : Option Bool :=
 lim fun kk1 => Z1 x_ own v143 p_ (fun (all_6 : (List Tat)) (more5 : Bool) => 
   Z1b v143 own x_ p_ self K6_ all_6 more5) kk1 all_4 more1 to_
theorem Zu {Q : AExit → St → Prop} {x_ : TJFunc} {own : Int} {v143 : Int} {p_ : TJProg} {more1 : Bool} {self : (List Tat) → Bool → Int → Option Bool} {K6_ : (List Tat) → Bool → Option Bool} {all_4 : (List Tat)} {to_ : (List (Int × Tat))} {zall_4 : Bool} (hzall_4 : zall_4 = true → all_4 = []) {o : Bool} (h : Z6 x_ own v143 p_ more1 self K6_ all_4 to_ = some o)
  (hself : Z28 own x_ p_ self o (Q .normal))
  (hK6 : Z29 own x_ p_ K6_ o (Q (.exit 6)))
  (hr : ∀ s, Ends a7.results 0 (Zc o) .ret s → Q .ret s) :
  Sv Tryd.prog GG 0 a7_c6 (Z2s Q) ⟨(ue [(143, (I v143)), (142, (I (x_.Code.length : Int))), (141, (.c (.ro false 2 (x_.Code.map e_TJIns)))), (22, (.c (.mp 3))), (15, (B more1)), (14, (lstV zall_4 2 3 all_4.length)), (6, (I (x_.Code.length : Int))), (5, (.c (.ref 1 4 0 0))), (2, (.c (.ref 0 3 0 0))), (1, (I own))]), (upd (upd (upd (upd e0 0 (some (.cells 3 [(e_TJProg p_)]))) 1 (some (.cells 4 [(e_TJFunc x_)]))) 2 (lstB zall_4 3 (all_4.map e_Tat))) 3 (mapB (.i .i64) (fun x => cI x) (fun (x : Tat) => (.agg (e_Tat x))) to_)), 4⟩ := by
 unfold Z6 at h
 refine ssr <| un1 rfl <| un <| a2v (v := (.c (.ref 4 0 0 0))) (h' := upd (upd _ 3 none) 4 (mitB (.i .i64) (fun x => cI x) (fun (x : Tat) => (.agg (e_Tat x))) none to_)) (n' := 5) rfl (s_rangeM (ek := (fun x => cI x)) (ev := (fun (x : Tat) => (.agg (e_Tat x)))) (l := to_) rfl rfl) hcs <| dnil <| Sv.block ?_
 obtain ⟨kk1, h⟩ := lim_some h
 refine Sv.weak (wcn [0, 1, 2, 4] rfl (.cr rfl rfl rfl (.cf rfl rfl (.cf rfl rfl (.cf rfl rfl (.cf rfl rfl (.cons rfl (.c (lsr rfl rfl)) (.cf rfl rfl (.cr rfl rfl rfl (.cr rfl rfl rfl (.cf rfl rfl .nil)))))))))) (.box (by decide) rfl (.mit (.inl rfl)) (.row (by decide) rfl (fr_map fun _ => rfl) (.box (by decide) rfl (blkAs_cells (.sm rfl (.sm rfl (.sm rfl (.sm rfl .nil))))) (.box (by decide) rfl (blkAs_cells (.sm rfl (.sm rfl (.sm rfl .nil)))) .nil))))) (Z5m hzall_4 h ?_ hr)
 ·intro all_6 more5 zall_6 hzall_6 h _ hw3
  exact Sv.weak (hw3.trans (wcn [0, 1, 2] rfl (.cf rfl rfl (.cf rfl rfl (.cf rfl rfl (.cf rfl rfl (.cons rfl (.c (lsr rfl rfl)) (.cf rfl rfl (.cr rfl rfl rfl (.cr rfl rfl rfl (.cf rfl rfl .nil))))))))) (.row (by decide) rfl (fr_map fun _ => rfl) (.box (by decide) rfl (blkAs_cells (.sm rfl (.sm rfl (.sm rfl (.sm rfl .nil))))) (.box (by decide) rfl (blkAs_cells (.sm rfl (.sm rfl (.sm rfl .nil)))) .nil))))) (Z3s hzall_6 h hself hK6 hr)
abbrev Z5o (Q : AExit → St → Prop) : AExit → St → Prop := AThen (Sv Tryd.prog GG 0 a7_c6 (Z2s Q)) (Z2s Q)
abbrev Z5p (Q : AExit → St → Prop) : AExit → St → Prop := ABlock 8 (Z5o Q)
noncomputable def Z1v (x_6 : Tat) (x_5 : TJIns) (own : Int) (x_ : TJFunc) (v143 : Int) (p_ : TJProg) (more1 : Bool) (r_ : (Int × Int)) (self : (List Tat) → Bool → Int → Option Bool) (K6_ : (List Tat) → Bool → Option Bool) (all_9 : (List Tat)) (v212 : Bool) : Option Bool :=
 if v212 then
  if ((decide (0 < (x_6.f_tries.length : Int))) || (!((decide (x_5.Do = 25) == decide (own = 0)) && true))) then
   some false
  else
   Z6 x_ own v143 p_ more1 self K6_ all_9 ([] : List (Int × Tat))
 else
  if decide (x_5.Do = 19) then
   Z6 x_ own v143 p_ more1 self K6_ all_9 ([] : List (Int × Tat))
  else
   if decide (x_5.Do = 20) then
    letIn (mset ([] : List (Int × Tat)) x_5.A (⟨true, (wi (x_6.f_height + 1)), x_6.f_tries⟩ : Tat)) fun mp20 : (List (Int × Tat)) =>
    if decide (x_5.A = (wi (v143 + 1))) then
     some false
    else
     (app? 16 [(⟨x_5.A, x_6.f_height⟩ : (Ar2 Int))] x_6.f_tries).bind fun r_2 =>
     letIn (mset mp20 (wi (v143 + 1)) (⟨true, (wi ((wi (x_6.f_height - r_.1)) + r_.2)), r_2⟩ : Tat)) fun mp21 : (List (Int × Tat)) =>
     Z6 x_ own v143 p_ more1 self K6_ all_9 mp21
   else
    if decide (x_5.Do = 21) then
     if decide ((x_6.f_tries.length : Int) = 0) then
      some false
     else
      (sub? x_6.f_tries 1 (x_6.f_tries.length : Int)).bind fun r_3 =>
      letIn (mset ([] : List (Int × Tat)) (wi (v143 + 1)) (⟨true, (wi ((wi (x_6.f_height - r_.1)) + r_.2)), r_3⟩ : Tat)) fun mp22 : (List (Int × Tat)) =>
      Z6 x_ own v143 p_ more1 self K6_ all_9 mp22
    else
     letIn (mset ([] : List (Int × Tat)) (wi (v143 + 1)) (⟨true, (wi ((wi (x_6.f_height - r_.1)) + r_.2)), x_6.f_tries⟩ : Tat)) fun mp23 : (List (Int × Tat)) =>
     Z6 x_ own v143 p_ more1 self K6_ all_9 mp23
theorem Z3v {Q : AExit → St → Prop} {x_6 : Tat} {x_5 : TJIns} {own : Int} {x_ : TJFunc} {v143 : Int} {p_ : TJProg} {more1 : Bool} {r_ : (Int × Int)} {self : (List Tat) → Bool → Int → Option Bool} {K6_ : (List Tat) → Bool → Option Bool} {all_9 : (List Tat)} {v212 : Bool} {zall_9 : Bool} (hzall_9 : zall_9 = true → all_9 = []) {o : Bool} (h : Z1v x_6 x_5 own x_ v143 p_ more1 r_ self K6_ all_9 v212 = some o)
  (hself : Z28 own x_ p_ self o (Q .normal))
  (hK6 : Z29 own x_ p_ K6_ o (Q (.exit 6)))
  (hr : ∀ s, Ends a7.results 0 (Zc o) .ret s → Q .ret s) :
  Sv Tryd.prog GG 0 a7_c4 (Z5p Q) ⟨(ue [(212, (B v212)), (176, (I x_5.Do)), (143, (I v143)), (142, (I (x_.Code.length : Int))), (141, (.c (.ro false 2 (x_.Code.map e_TJIns)))), (22, (.c (.mp 6))), (21, (.c (.ref 5 3 0 0))), (18, (.c (.ref 4 3 0 0))), (17, (.c (.ref 3 2 0 0))), (16, (I v143)), (15, (B more1)), (14, (lstV zall_9 2 3 all_9.length)), (6, (I (x_.Code.length : Int))), (5, (.c (.ref 1 4 0 0))), (2, (.c (.ref 0 3 0 0))), (1, (I own))]), (upd (upd (upd (upd (upd (upd (upd e0 0 (some (.cells 3 [(e_TJProg p_)]))) 1 (some (.cells 4 [(e_TJFunc x_)]))) 2 (lstB zall_9 3 (all_9.map e_Tat))) 3 (some (.cells 2 [(e_TJIns x_5)]))) 4 (some (.cells 3 [(e_Tat x_6)]))) 5 (some (.cells 3 [[cB true, cI (wi ((wi (x_6.f_height - r_.1)) + r_.2)), .ro false 2 (x_6.f_tries.map (eA2 eI))]]))) 6 (mapB (.i .i64) (fun x => cI x) (fun (x : Tat) => (.agg (e_Tat x))) ([] : List (Int × Tat)))), 7⟩ := by
 unfold Z1v at h
 refine Sv.cnd rfl h (fun h => ?_) fun h => ?_
 ·refine ssr <| un1 (v := (.c (.ref 4 3 0 2))) rfl <| un1 (v := (.c (.ro false 2 (x_6.f_tries.map (eA2 eI))))) rfl <| un1 (v := (I (x_6.f_tries.length : Int))) (s_len (e := (eA2 eI)) (xs := x_6.f_tries) rfl) <| un1 (v := (B (decide (0 < (x_6.f_tries.length : Int))))) rfl <| un1 rfl ?_
  refine gjoin 7 (d := 226) (v := (B ((decide (0 < (x_6.f_tries.length : Int))) || (!((decide (x_5.Do = 25) == decide (own = 0)) && true))))) (fun X hX => ?_) ?_
  ·refine split2 (fun hc27 => ?_) (fun hc27 => ?_)
   ·repeat (first | refine gu rfl ?_ | refine gs rfl rfl ?_)
    refine un1 (v := (B true)) rfl <| dnil ?_
    exact hX _ (.putEq (by rw [hc27]; rfl) (by repeat (first | exact .putEq (by rw [hc27]) (.refl _) | refine .skp ?_ rfl)))
   ·refine gt rfl <| a1 (v := (.c (.ref 3 2 0 0))) rfl <| gt rfl <| a1 (v := (I x_5.Do)) rfl <| gt rfl <| a1 (v := (B (decide (x_5.Do = 25)))) rfl <| gt rfl <| a1 rfl <| gt rfl <| a1 (v := (B (decide (own = 0)))) rfl <| gt rfl <| a1 (v := (B (!((decide (x_5.Do = 25) == decide (own = 0)) && true)))) rfl <| un1 (v := (B (!((decide (x_5.Do = 25) == decide (own = 0)) && true)))) rfl <| dnil ?_
    exact hX _ (.putEq (by rw [hc27]; rfl) (by repeat (first | exact .putEq (by rw [hc27]) (.refl _) | refine .skp ?_ rfl)))
  refine dnil ?_
  refine Sv.cnd rfl h (fun h => ?_) fun h => ?_
  ·refine ssr <| un1 rfl <| dnil <| Sv.ret ?_
   exact hr _ (rt0 h rfl rfl ⟨rfl, rfl, rfl⟩)
  ·refine Sv.skip ?_
   exact Sv.weak (wcn [0, 1, 2, 6] rfl (.cf rfl rfl (.cf rfl rfl (.cf rfl rfl (.cons rfl (.c (.mp rfl (by decide))) (.cf rfl rfl (.cons rfl (.c (lsr rfl rfl)) (.cf rfl rfl (.cr rfl rfl rfl (.cr rfl rfl rfl (.cf rfl rfl .nil)))))))))) (.box (by decide) rfl .map (.row (by decide) rfl (fr_map fun _ => rfl) (.box (by decide) rfl (blkAs_cells (.sm rfl (.sm rfl (.sm rfl (.sm rfl .nil))))) (.box (by decide) rfl (blkAs_cells (.sm rfl (.sm rfl (.sm rfl .nil)))) .nil))))) (Zu hzall_9 h hself hK6 hr)
 ·refine ssr <| un1 (v := (B (decide (x_5.Do = 19)))) rfl <| un1 rfl <| dnil ?_
  refine Sv.cnd rfl h (fun h => ?_) fun h => ?_
  ·refine Sv.skip ?_
   exact Sv.weak (wcn [0, 1, 2, 6] rfl (.cf rfl rfl (.cf rfl rfl (.cf rfl rfl (.cons rfl (.c (.mp rfl (by decide))) (.cf rfl rfl (.cons rfl (.c (lsr rfl rfl)) (.cf rfl rfl (.cr rfl rfl rfl (.cr rfl rfl rfl (.cf rfl rfl .nil)))))))))) (.box (by decide) rfl .map (.row (by decide) rfl (fr_map fun _ => rfl) (.box (by decide) rfl (blkAs_cells (.sm rfl (.sm rfl (.sm rfl (.sm rfl .nil))))) (.box (by decide) rfl (blkAs_cells (.sm rfl (.sm rfl (.sm rfl .nil)))) .nil))))) (Zu hzall_9 h hself hK6 hr)
  ·refine ssr <| un1 (v := (B (decide (x_5.Do = 20)))) rfl <| un1 rfl <| dnil ?_
   refine Sv.cnd rfl h (fun h => ?_) fun h => ?_
   ·refine ssr <| un1 rfl <| un1 (v := (.c (.ref 3 2 0 1))) rfl <| un1 (v := (I x_5.A)) rfl <| un1 (v := (.c (.ref 4 3 0 1))) rfl <| un1 (v := (I x_6.f_height)) rfl <| un1 (v := (I (wi (x_6.f_height + 1)))) rfl <| un1 (v := (.c (.ref 4 3 0 2))) rfl <| un1 (v := (.c (.ro false 2 (x_6.f_tries.map (eA2 eI))))) rfl <| un1 (v := (.agg [cB true, cI (wi (x_6.f_height + 1)), .ro false 2 (x_6.f_tries.map (eA2 eI))])) rfl ?_
    obtain ⟨mp20, hmp20⟩ : ∃ mp20 : (List (Int × Tat)), mp20 = (mset ([] : List (Int × Tat)) x_5.A (⟨true, (wi (x_6.f_height + 1)), x_6.f_tries⟩ : Tat)) := ⟨_, rfl⟩
    replace h := letAt hmp20 h
    refine un <| a2n (h' := upd _ 6 (mapB (.i .i64) (fun x => cI x) (fun (x : Tat) => (.agg (e_Tat x))) mp20)) (n' := 7) rfl (by rw [hmp20]; exact s_mput (ek := (fun x => cI x)) (ev := (fun (x : Tat) => (.agg (e_Tat x)))) (l := ([] : List (Int × Tat))) (key := x_5.A) (val := (⟨true, (wi (x_6.f_height + 1)), x_6.f_tries⟩ : Tat)) (fun _ _ => rfl) rfl rfl rfl rfl rfl rfl) hcs ?_
    clear hmp20
    refine dnil <| Sv.seq <| ssr <| un1 (v := (.c (.ref 3 2 0 1))) rfl <| un1 (v := (I x_5.A)) rfl <| un1 rfl <| un1 (v := (I (wi (v143 + 1)))) rfl <| un1 (v := (B (decide (x_5.A = (wi (v143 + 1)))))) rfl <| dnil ?_
    refine Sv.cnd rfl h (fun h => ?_) fun h => ?_
    ·refine ssr <| un1 rfl <| dnil <| Sv.ret ?_
     exact hr _ (rt0 h rfl rfl ⟨rfl, rfl, rfl⟩)
    ·refine Sv.skip <| ssr <| un1 (v := (.c (.ref 3 2 0 1))) rfl <| un1 (v := (I x_5.A)) rfl <| un1 (v := (.c (.ref 4 3 0 1))) rfl <| un1 (v := (I x_6.f_height)) rfl <| un1 (v := (.agg [cI x_5.A, cI x_6.f_height])) rfl <| un <| a2v (v := (lstV false 7 2 [(⟨x_5.A, x_6.f_height⟩ : (Ar2 Int))].length)) (h' := upd _ 7 (lstB false 2 ([(⟨x_5.A, x_6.f_height⟩ : (Ar2 Int))].map (eA2 eI)))) (n' := 8) rfl rfl hcs <| un1 (v := (.c (.ref 4 3 0 2))) rfl <| un1 (v := (.c (.ro false 2 (x_6.f_tries.map (eA2 eI))))) rfl ?_
     obtain ⟨r_2, hr3, h⟩ := bnd h
     have hz1 : (false && x_6.f_tries.isEmpty) = true → r_2 = [] := app_nil (z := false) (ys := x_6.f_tries) hcs hr3
     replace hz1 : false = true → r_2 = [] := hz1
     refine un <| a2v rfl (s_app (xs := [(⟨x_5.A, x_6.f_height⟩ : (Ar2 Int))]) (ys := x_6.f_tries) (e := (eA2 eI)) (z := false) (b := 7) rfl rfl hcs rfl rfl (slc_ro) hr3) hcs <| un1 (v := (.c (.ref 5 3 0 2))) rfl <| un <| a2n (h' := upd _ 5 (some (.cells 3 [[cB true, cI (wi ((wi (x_6.f_height - r_.1)) + r_.2)), lstC false 8 2 r_2.length]]))) (n' := 9) rfl rfl hcs <| dnil <| srg <| un1 rfl <| un1 rfl <| un1 (v := (I (wi (v143 + 1)))) rfl <| un1 (v := (.agg [cB true, cI (wi ((wi (x_6.f_height - r_.1)) + r_.2)), lstC false 8 2 r_2.length])) rfl <| dweak (show Weak 0 _ ⟨(ue [(258, (.agg [cB true, cI (wi ((wi (x_6.f_height - r_.1)) + r_.2)), .ro false 2 (r_2.map (eA2 eI))])), (257, (I (wi (v143 + 1)))), (256, (I v143)), (255, (.c (.mp 6))), (254, (.c (.ref 5 3 0 2))), (253, (.c (.ro false 2 (r_2.map (eA2 eI))))), (252, (.c (.ro false 2 (x_6.f_tries.map (eA2 eI))))), (251, (.c (.ref 4 3 0 2))), (249, (.agg [cI x_5.A, cI x_6.f_height])), (248, (I x_6.f_height)), (247, (.c (.ref 4 3 0 1))), (246, (I x_5.A)), (245, (.c (.ref 3 2 0 1))), (244, (B (decide (x_5.A = (wi (v143 + 1)))))), (243, (I (wi (v143 + 1)))), (242, (I v143)), (241, (I x_5.A)), (240, (.c (.ref 3 2 0 1))), (239, (.agg [cB true, cI (wi (x_6.f_height + 1)), .ro false 2 (x_6.f_tries.map (eA2 eI))])), (238, (.c (.ro false 2 (x_6.f_tries.map (eA2 eI))))), (237, (.c (.ref 4 3 0 2))), (236, (I (wi (x_6.f_height + 1)))), (235, (I x_6.f_height)), (234, (.c (.ref 4 3 0 1))), (233, (I x_5.A)), (232, (.c (.ref 3 2 0 1))), (231, (.c (.mp 6))), (230, (B (decide (x_5.Do = 20)))), (229, (B (decide (x_5.Do = 20)))), (228, (B (decide (x_5.Do = 19)))), (227, (B (decide (x_5.Do = 19)))), (212, (B v212)), (176, (I x_5.Do)), (143, (I v143)), (142, (I (x_.Code.length : Int))), (141, (.c (.ro false 2 (x_.Code.map e_TJIns)))), (22, (.c (.mp 6))), (21, (.c (.ref 5 3 0 0))), (18, (.c (.ref 4 3 0 0))), (17, (.c (.ref 3 2 0 0))), (16, (I v143)), (15, (B more1)), (14, (lstV zall_9 2 3 all_9.length)), (6, (I (x_.Code.length : Int))), (5, (.c (.ref 1 4 0 0))), (2, (.c (.ref 0 3 0 0))), (1, (I own))]), (upd (upd (upd (upd (upd (upd (upd e0 0 (some (.cells 3 [(e_TJProg p_)]))) 1 (some (.cells 4 [(e_TJFunc x_)]))) 2 (lstB zall_9 3 (all_9.map e_Tat))) 3 (some (.cells 2 [(e_TJIns x_5)]))) 4 (some (.cells 3 [(e_Tat x_6)]))) 5 (some (.cells 3 [[cB true, cI (wi ((wi (x_6.f_height - r_.1)) + r_.2)), .ro false 2 (r_2.map (eA2 eI))]]))) 6 (mapB (.i .i64) (fun x => cI x) (fun (x : Tat) => (.agg (e_Tat x))) mp20)), 9⟩ from (wcn [0, 1, 2, 3, 4, 5, 6, 1007, 1008] rfl (.cons rfl (avAs_agg (.sm rfl (.sm rfl (.cons (lstC_ro (es := List.map (eA2 eI) r_2) rfl (List.length_map (eA2 eI)).symm (map_nil_of hz1) (fun b x hx => not_in (bs := [0, 1, 2, 3, 4, 5, 6, 1007, 1008]) rfl b (((.cons (by decide) (.cons (by decide) (.cons (by decide) (.cons (by decide) (.cons (by decide) (.cons (by decide) (.cons (by decide) .nil))))))) : HLt _ _) b x hx)) (fr_map fun _ => rfl)) .nil)))) (.cf rfl rfl (.cf rfl rfl (.cons rfl (.c (.mp rfl (by decide))) (.cr rfl rfl rfl (.cons rfl (.c (lstC_ro (es := List.map (eA2 eI) r_2) rfl (List.length_map (eA2 eI)).symm (map_nil_of hz1) (fun b x hx => not_in (bs := [0, 1, 2, 3, 4, 5, 6, 1007, 1008]) rfl b (((.cons (by decide) (.cons (by decide) (.cons (by decide) (.cons (by decide) (.cons (by decide) (.cons (by decide) (.cons (by decide) .nil))))))) : HLt _ _) b x hx)) (fr_map fun _ => rfl))) (.cf rfl rfl (.cr rfl rfl rfl (.cf rfl rfl (.cf rfl rfl (.cr rfl rfl rfl (.cf rfl rfl (.cr rfl rfl rfl (.cf rfl rfl (.cf rfl rfl (.cf rfl rfl (.cf rfl rfl (.cr rfl rfl rfl (.cf rfl rfl (.cf rfl rfl (.cr rfl rfl rfl (.cf rfl rfl (.cf rfl rfl (.cr rfl rfl rfl (.cf rfl rfl (.cr rfl rfl rfl (.cons rfl (.c (.mp rfl (by decide))) (.cf rfl rfl (.cf rfl rfl (.cf rfl rfl (.cf rfl rfl (.cf rfl rfl (.cf rfl rfl (.cf rfl rfl (.cf rfl rfl (.cf rfl rfl (.cons rfl (.c (.mp rfl (by decide))) (.cr rfl rfl rfl (.cr rfl rfl rfl (.cr rfl rfl rfl (.cf rfl rfl (.cf rfl rfl (.cons rfl (.c (lsr rfl rfl)) (.cf rfl rfl (.cr rfl rfl rfl (.cr rfl rfl rfl (.cf rfl rfl .nil))))))))))))))))))))))))))))))))))))))))))))))) (.box (by decide) rfl .map (.box (by decide) rfl (blkAs_cells (.sm rfl (.sm rfl (.cons (lstC_ro (es := List.map (eA2 eI) r_2) rfl (List.length_map (eA2 eI)).symm (map_nil_of hz1) (fun b x hx => not_in (bs := [0, 1, 2, 3, 4, 5, 6, 1007, 1008]) rfl b (((.cons (by decide) (.cons (by decide) (.cons (by decide) (.cons (by decide) (.cons (by decide) (.cons (by decide) (.cons (by decide) .nil))))))) : HLt _ _) b x hx)) (fr_map fun _ => rfl)) .nil)))) (.box (by decide) rfl (blkAs_cells (.sm rfl (.sm rfl (.sm rfl .nil)))) (.box (by decide) rfl (blkAs_cells (.sm rfl (.sm rfl .nil))) (.row (by decide) rfl (fr_map fun _ => rfl) (.box (by decide) rfl (blkAs_cells (.sm rfl (.sm rfl (.sm rfl (.sm rfl .nil))))) (.box (by decide) rfl (blkAs_cells (.sm rfl (.sm rfl (.sm rfl .nil)))) .nil))))))))) ?_
     obtain ⟨mp21, hmp21⟩ : ∃ mp21 : (List (Int × Tat)), mp21 = (mset mp20 (wi (v143 + 1)) (⟨true, (wi ((wi (x_6.f_height - r_.1)) + r_.2)), r_2⟩ : Tat)) := ⟨_, rfl⟩
     replace h := letAt hmp21 h
     refine un <| a2n (h' := upd _ 6 (mapB (.i .i64) (fun x => cI x) (fun (x : Tat) => (.agg (e_Tat x))) mp21)) (n' := 9) rfl (by rw [hmp21]; exact s_mput (ek := (fun x => cI x)) (ev := (fun (x : Tat) => (.agg (e_Tat x)))) (l := mp20) (key := (wi (v143 + 1))) (val := (⟨true, (wi ((wi (x_6.f_height - r_.1)) + r_.2)), r_2⟩ : Tat)) (fun _ _ => rfl) rfl rfl rfl rfl rfl rfl) hcs ?_
     clear hmp21
     refine dnil ?_
     exact Sv.weak (wcn [0, 1, 2, 6] rfl (.cf rfl rfl (.cf rfl rfl (.cf rfl rfl (.cons rfl (.c (.mp rfl (by decide))) (.cf rfl rfl (.cons rfl (.c (lsr rfl rfl)) (.cf rfl rfl (.cr rfl rfl rfl (.cr rfl rfl rfl (.cf rfl rfl .nil)))))))))) (.box (by decide) rfl .map (.row (by decide) rfl (fr_map fun _ => rfl) (.box (by decide) rfl (blkAs_cells (.sm rfl (.sm rfl (.sm rfl (.sm rfl .nil))))) (.box (by decide) rfl (blkAs_cells (.sm rfl (.sm rfl (.sm rfl .nil)))) .nil))))) (Zu hzall_9 h hself hK6 hr)
   ·refine ssr <| un1 (v := (B (decide (x_5.Do = 21)))) rfl <| un1 rfl <| dnil ?_
    refine Sv.cnd rfl h (fun h => ?_) fun h => ?_
    ·refine Sv.seq <| ssr <| un1 (v := (.c (.ref 4 3 0 2))) rfl <| un1 (v := (.c (.ro false 2 (x_6.f_tries.map (eA2 eI))))) rfl <| un1 (v := (I (x_6.f_tries.length : Int))) (s_len (e := (eA2 eI)) (xs := x_6.f_tries) rfl) <| un1 (v := (B (decide ((x_6.f_tries.length : Int) = 0)))) rfl <| dnil ?_
     refine Sv.cnd rfl h (fun h => ?_) fun h => ?_
     ·refine ssr <| un1 rfl <| dnil <| Sv.ret ?_
      exact hr _ (rt0 h rfl rfl ⟨rfl, rfl, rfl⟩)
     ·refine Sv.skip <| ssr <| un1 (v := (.c (.ref 4 3 0 2))) rfl <| un1 (v := (.c (.ro false 2 (x_6.f_tries.map (eA2 eI))))) rfl ?_
      obtain ⟨r_3, hx14, h⟩ := bnd h
      refine un1 (v := (.c (.ro false 2 (r_3.map (eA2 eI))))) (s_slSl (e := (eA2 eI)) rfl rfl rfl hx14) <| un1 (v := (.c (.ref 5 3 0 2))) rfl <| un <| a2n (h' := upd _ 5 (some (.cells 3 [[cB true, cI (wi ((wi (x_6.f_height - r_.1)) + r_.2)), .ro false 2 (r_3.map (eA2 eI))]]))) (n' := 7) rfl rfl hcs <| dnil <| srg <| un1 rfl <| un1 rfl <| un1 (v := (I (wi (v143 + 1)))) rfl <| un1 (v := (.agg [cB true, cI (wi ((wi (x_6.f_height - r_.1)) + r_.2)), .ro false 2 (r_3.map (eA2 eI))])) rfl ?_
      obtain ⟨mp22, hmp22⟩ : ∃ mp22 : (List (Int × Tat)), mp22 = (mset ([] : List (Int × Tat)) (wi (v143 + 1)) (⟨true, (wi ((wi (x_6.f_height - r_.1)) + r_.2)), r_3⟩ : Tat)) := ⟨_, rfl⟩
      replace h := letAt hmp22 h
      refine un <| a2n (h' := upd _ 6 (mapB (.i .i64) (fun x => cI x) (fun (x : Tat) => (.agg (e_Tat x))) mp22)) (n' := 7) rfl (by rw [hmp22]; exact s_mput (ek := (fun x => cI x)) (ev := (fun (x : Tat) => (.agg (e_Tat x)))) (l := ([] : List (Int × Tat))) (key := (wi (v143 + 1))) (val := (⟨true, (wi ((wi (x_6.f_height - r_.1)) + r_.2)), r_3⟩ : Tat)) (fun _ _ => rfl) rfl rfl rfl rfl rfl rfl) hcs ?_
      clear hmp22
      refine dnil ?_
      exact Sv.weak (wcn [0, 1, 2, 6] rfl (.cf rfl rfl (.cf rfl rfl (.cf rfl rfl (.cons rfl (.c (.mp rfl (by decide))) (.cf rfl rfl (.cons rfl (.c (lsr rfl rfl)) (.cf rfl rfl (.cr rfl rfl rfl (.cr rfl rfl rfl (.cf rfl rfl .nil)))))))))) (.box (by decide) rfl .map (.row (by decide) rfl (fr_map fun _ => rfl) (.box (by decide) rfl (blkAs_cells (.sm rfl (.sm rfl (.sm rfl (.sm rfl .nil))))) (.box (by decide) rfl (blkAs_cells (.sm rfl (.sm rfl (.sm rfl .nil)))) .nil))))) (Zu hzall_9 h hself hK6 hr)
    ·refine srg <| un1 rfl <| un1 rfl <| un1 (v := (I (wi (v143 + 1)))) rfl <| un1 (v := (.agg [cB true, cI (wi ((wi (x_6.f_height - r_.1)) + r_.2)), .ro false 2 (x_6.f_tries.map (eA2 eI))])) rfl ?_
     obtain ⟨mp23, hmp23⟩ : ∃ mp23 : (List (Int × Tat)), mp23 = (mset ([] : List (Int × Tat)) (wi (v143 + 1)) (⟨true, (wi ((wi (x_6.f_height - r_.1)) + r_.2)), x_6.f_tries⟩ : Tat)) := ⟨_, rfl⟩
     replace h := letAt hmp23 h
     refine un <| a2n (h' := upd _ 6 (mapB (.i .i64) (fun x => cI x) (fun (x : Tat) => (.agg (e_Tat x))) mp23)) (n' := 7) rfl (by rw [hmp23]; exact s_mput (ek := (fun x => cI x)) (ev := (fun (x : Tat) => (.agg (e_Tat x)))) (l := ([] : List (Int × Tat))) (key := (wi (v143 + 1))) (val := (⟨true, (wi ((wi (x_6.f_height - r_.1)) + r_.2)), x_6.f_tries⟩ : Tat)) (fun _ _ => rfl) rfl rfl rfl rfl rfl rfl) hcs ?_
     clear hmp23
     refine dnil ?_
     exact Sv.weak (wcn [0, 1, 2, 6] rfl (.cf rfl rfl (.cf rfl rfl (.cf rfl rfl (.cons rfl (.c (.mp rfl (by decide))) (.cf rfl rfl (.cons rfl (.c (lsr rfl rfl)) (.cf rfl rfl (.cr rfl rfl rfl (.cr rfl rfl rfl (.cf rfl rfl .nil)))))))))) (.box (by decide) rfl .map (.row (by decide) rfl (fr_map fun _ => rfl) (.box (by decide) rfl (blkAs_cells (.sm rfl (.sm rfl (.sm rfl (.sm rfl .nil))))) (.box (by decide) rfl (blkAs_cells (.sm rfl (.sm rfl (.sm rfl .nil)))) .nil))))) (Zu hzall_9 h hself hK6 hr)
abbrev Z3w (own : Int) (x_ : TJFunc) (p_ : TJProg) (F_ : Nat → (List Tat) → Bool → Int → Option Bool) (o : Bool) : Nat → St → Prop := fun k s => ∃ (all_1 : (List Tat)), ∃ (more1 : Bool), ∃ (v143 : Int), ∃ (zall_1 : Bool), (zall_1 = true → all_1 = []) ∧ F_ k all_1 more1 v143 = some o ∧ s = ⟨(ue [(143, (I v143)), (142, (I (x_.Code.length : Int))), (141, (.c (.ro false 2 (x_.Code.map e_TJIns)))), (15, (B more1)), (14, (lstV zall_1 2 3 all_1.length)), (6, (I (x_.Code.length : Int))), (5, (.c (.ref 1 4 0 0))), (2, (.c (.ref 0 3 0 0))), (1, (I own))]), (upd (upd (upd e0 0 (some (.cells 3 [(e_TJProg p_)]))) 1 (some (.cells 4 [(e_TJFunc x_)]))) 2 (lstB zall_1 3 (all_1.map e_Tat))), 3⟩
noncomputable def Z0 (x_ : TJFunc) (own : Int) (p_ : TJProg) (K6_ : (List Tat) → Bool → Option Bool) : Nat → (List Tat) → Bool → Int → Option Bool
 | 0, _, _, _ => none
 | k + 1, all_1, more1, v143 =>
  if decide (v143 < (x_.Code.length : Int)) then
   (at? x_.Code v143).bind fun x_5 =>
   (at? all_1 v143).bind fun x_6 =>
   if (!x_6.f_known) then
    Z1b v143 own x_ p_ (Z0 x_ own p_ K6_ k) K6_ all_1 more1
   else
    (Z1u x_5 p_).bind fun r_ =>
    if decide (x_6.f_height < r_.1) then
     some false
    else
     if decide (x_5.Do = 9) then
      letIn (mset ([] : List (Int × Tat)) x_5.A (⟨true, (wi ((wi (x_6.f_height - r_.1)) + r_.2)), x_6.f_tries⟩ : Tat)) fun mp15 : (List (Int × Tat)) =>
      Z6 x_ own v143 p_ more1 (Z0 x_ own p_ K6_ k) K6_ all_1 mp15
     else
      if decide (x_5.Do = 10) then
       letIn (mset ([] : List (Int × Tat)) x_5.A (⟨true, (wi ((wi (x_6.f_height - r_.1)) + r_.2)), x_6.f_tries⟩ : Tat)) fun mp16 : (List (Int × Tat)) =>
       letIn (mset mp16 (wi (v143 + 1)) (⟨true, (wi ((wi (x_6.f_height - r_.1)) + r_.2)), x_6.f_tries⟩ : Tat)) fun mp17 : (List (Int × Tat)) =>
       Z6 x_ own v143 p_ more1 (Z0 x_ own p_ K6_ k) K6_ all_1 mp17
      else
       if decide (x_5.Do = 24) then
        letIn (mset ([] : List (Int × Tat)) x_5.A x_6) fun mp18 : (List (Int × Tat)) =>
        if decide (x_5.A = (wi (v143 + 1))) then
         some false
        else
         letIn (mset mp18 (wi (v143 + 1)) (⟨true, (wi ((wi (x_6.f_height - r_.1)) + r_.2)), x_6.f_tries⟩ : Tat)) fun mp19 : (List (Int × Tat)) =>
         Z6 x_ own v143 p_ more1 (Z0 x_ own p_ K6_ k) K6_ all_1 mp19
       else
        if decide (x_5.Do = 18) then
         Z1v x_6 x_5 own x_ v143 p_ more1 r_ (Z0 x_ own p_ K6_ k) K6_ all_1 (decide (x_5.Do = 18))
        else
         Z1v x_6 x_5 own x_ v143 p_ more1 r_ (Z0 x_ own p_ K6_ k) K6_ all_1 (decide (x_5.Do = 25))
  else
   K6_ all_1 more1
theorem Z5q {Q : AExit → St → Prop} {x_ : TJFunc} {own : Int} {p_ : TJProg} {K6_ : (List Tat) → Bool → Option Bool} {k : Nat} {all_1 : (List Tat)} {more1 : Bool} {v143 : Int} {zall_1 : Bool} (hzall_1 : zall_1 = true → all_1 = []) {o : Bool} (h : Z0 x_ own p_ K6_ k all_1 more1 v143 = some o)
  (hK6 : Z29 own x_ p_ K6_ o (Q (.exit 6)))
  (hr : ∀ s, Ends a7.results 0 (Zc o) .ret s → Q .ret s) :
  Sv Tryd.prog GG 0 (.loop a7_c11) Q ⟨(ue [(143, (I v143)), (142, (I (x_.Code.length : Int))), (141, (.c (.ro false 2 (x_.Code.map e_TJIns)))), (15, (B more1)), (14, (lstV zall_1 2 3 all_1.length)), (6, (I (x_.Code.length : Int))), (5, (.c (.ref 1 4 0 0))), (2, (.c (.ref 0 3 0 0))), (1, (I own))]), (upd (upd (upd e0 0 (some (.cells 3 [(e_TJProg p_)]))) 1 (some (.cells 4 [(e_TJFunc x_)]))) 2 (lstB zall_1 3 (all_1.map e_Tat))), 3⟩ := by
 refine Sv.loop (I := Z3w own x_ p_ (Z0 x_ own p_ K6_) o) (fun k s hI => ?_) ⟨all_1, more1, v143, zall_1, hzall_1, h, rfl⟩
 clear h
 clear hzall_1 zall_1 v143 more1 all_1
 obtain ⟨all_1, more1, v143, zall_1, hzall_1, h, rfl⟩ := hI
 cases k with
 | zero => cases h
 | succ k =>
 rw [Z0] at h
 have hself : Z28 own x_ p_ (Z0 x_ own p_ K6_ k) o (rnd 0 (Z3w own x_ p_ (Z0 x_ own p_ K6_) o) k Q) := fun all_1 more1 v143 zall_1 hzall_1 h s hw => ⟨_, k, hw, Nat.lt_succ_self k, all_1, more1, v143, zall_1, hzall_1, h, rfl⟩
 refine ssr <| un1 (v := (B (decide (v143 < (x_.Code.length : Int))))) rfl <| dnil <| Sv.seq ?_
 refine Sv.cnd rfl h (fun h => ?_) fun h => ?_
 ·refine Sv.skip <| Sv.seq <| Sv.block <| ssr <| un1 rfl ?_
  obtain ⟨x_5, hx7, h⟩ := bnd h
  refine un1 (v := (.c (.rop (e_TJIns x_5)))) (s_iaddr (e := e_TJIns) (xs := x_.Code) rfl rfl hx7) <| un1 (v := (.agg (e_TJIns x_5))) rfl <| un <| a2v (v := (.c (.ref 3 2 0 0))) (h' := upd _ 3 (some (.cells 2 [[cI 0, cI 0]]))) (n' := 4) rfl rfl hcs <| un1 rfl <| un <| a2n (h' := upd _ 3 (some (.cells 2 [(e_TJIns x_5)]))) (n' := 4) rfl rfl hcs <| dnil <| ssr <| un1 rfl <| un1 rfl ?_
  obtain ⟨x_6, hx8, h⟩ := bnd h
  refine un1 (v := (.c (.ref 2 3 v143.toNat 0))) (s_iaddrL rfl rfl hzall_1 hx8) <| un1 (v := (.agg (e_Tat x_6))) (s_loadL (z := zall_1) (e := e_Tat) rfl rfl hzall_1 hx8 rfl rfl) <| un <| a2v (v := (.c (.ref 4 3 0 0))) (h' := upd _ 4 (some (.cells 3 [[cB false, cI 0, .ro true 2 []]]))) (n' := 5) rfl rfl hcs <| un <| a2n (h' := upd _ 4 (some (.cells 3 [(e_Tat x_6)]))) (n' := 5) rfl rfl hcs <| dnil <| Sv.seq <| ssr <| un1 (v := (.c (.ref 4 3 0 0))) rfl <| un1 (v := (B x_6.f_known)) rfl <| un1 (v := (B (!x_6.f_known))) rfl <| dnil ?_
  refine Sv.cnd rfl h (fun h => ?_) fun h => ?_
  ·refine Sv.exit ?_
   exact Sv.weak (wcn [0, 1, 2] rfl (.cf rfl rfl (.cf rfl rfl (.cf rfl rfl (.cf rfl rfl (.cons rfl (.c (lsr rfl rfl)) (.cf rfl rfl (.cr rfl rfl rfl (.cr rfl rfl rfl (.cf rfl rfl .nil))))))))) (.row (by decide) rfl (fr_map fun _ => rfl) (.box (by decide) rfl (blkAs_cells (.sm rfl (.sm rfl (.sm rfl (.sm rfl .nil))))) (.box (by decide) rfl (blkAs_cells (.sm rfl (.sm rfl (.sm rfl .nil)))) .nil)))) (Z3s hzall_1 h hself hK6 hr)
  ·refine Sv.skip <| ssr <| un1 (v := (.agg (e_TJIns x_5))) rfl <| un1 (v := (.agg (e_TJProg p_))) rfl ?_
   obtain ⟨r_, hr1, h⟩ := bnd h
   refine un <| ac_pure (Z5a hr1) rfl rfl rfl <| un1 rfl <| un1 (v := (I r_.1)) rfl <| un1 (v := (I r_.2)) rfl <| un1 rfl <| un1 rfl <| dnil <| Sv.seq <| ssr <| un1 (v := (.c (.ref 4 3 0 1))) rfl <| un1 (v := (I x_6.f_height)) rfl <| un1 rfl <| un1 (v := (B (decide (x_6.f_height < r_.1)))) rfl <| dnil ?_
   refine Sv.cnd rfl h (fun h => ?_) fun h => ?_
   ·refine ssr <| un1 rfl <| dnil <| Sv.ret ?_
    exact hr _ (rt0 h rfl rfl ⟨rfl, rfl, rfl⟩)
   ·refine Sv.skip <| ssr <| un1 (v := (.c (.ref 4 3 0 1))) rfl <| un1 (v := (I x_6.f_height)) rfl <| un1 rfl <| un1 (v := (I (wi (x_6.f_height - r_.1)))) rfl <| un1 rfl <| un1 (v := (I (wi ((wi (x_6.f_height - r_.1)) + r_.2)))) rfl <| un1 (v := (.c (.ref 4 3 0 2))) rfl <| un1 (v := (.c (.ro false 2 (x_6.f_tries.map (eA2 eI))))) rfl <| un1 (v := (.agg [cB true, cI (wi ((wi (x_6.f_height - r_.1)) + r_.2)), .ro false 2 (x_6.f_tries.map (eA2 eI))])) rfl <| un <| a2v (v := (.c (.ref 5 3 0 0))) (h' := upd _ 5 (some (.cells 3 [[cB false, cI 0, .ro true 2 []]]))) (n' := 6) rfl rfl hcs <| un <| a2n (h' := upd _ 5 (some (.cells 3 [[cB true, cI (wi ((wi (x_6.f_height - r_.1)) + r_.2)), .ro false 2 (x_6.f_tries.map (eA2 eI))]]))) (n' := 6) rfl rfl hcs <| dnil <| ssr <| un <| a2v (v := (.c (.mp 6))) (h' := upd _ 6 (mapB (.i .i64) (fun x => cI x) (fun (x : Tat) => (.agg (e_Tat x))) ([] : List (Int × Tat)))) (n' := 7) rfl rfl hcs <| un1 rfl <| dnil <| Sv.seq <| ssr <| un1 (v := (.c (.ref 3 2 0 0))) rfl <| un1 (v := (I x_5.Do)) rfl <| dnil <| Sv.block <| ssr <| un1 (v := (B (decide (x_5.Do = 9)))) rfl <| un1 rfl <| dnil ?_
    refine Sv.cnd rfl h (fun h => ?_) fun h => ?_
    ·refine srg <| un1 rfl <| un1 (v := (.c (.ref 3 2 0 1))) rfl <| un1 (v := (I x_5.A)) rfl <| un1 (v := (.agg [cB true, cI (wi ((wi (x_6.f_height - r_.1)) + r_.2)), .ro false 2 (x_6.f_tries.map (eA2 eI))])) rfl ?_
     obtain ⟨mp15, hmp15⟩ : ∃ mp15 : (List (Int × Tat)), mp15 = (mset ([] : List (Int × Tat)) x_5.A (⟨true, (wi ((wi (x_6.f_height - r_.1)) + r_.2)), x_6.f_tries⟩ : Tat)) := ⟨_, rfl⟩
     replace h := letAt hmp15 h
     refine un <| a2n (h' := upd _ 6 (mapB (.i .i64) (fun x => cI x) (fun (x : Tat) => (.agg (e_Tat x))) mp15)) (n' := 7) rfl (by rw [hmp15]; exact s_mput (ek := (fun x => cI x)) (ev := (fun (x : Tat) => (.agg (e_Tat x)))) (l := ([] : List (Int × Tat))) (key := x_5.A) (val := (⟨true, (wi ((wi (x_6.f_height - r_.1)) + r_.2)), x_6.f_tries⟩ : Tat)) (fun _ _ => rfl) rfl rfl rfl rfl rfl rfl) hcs ?_
     clear hmp15
     refine dnil ?_
     exact Sv.weak (wcn [0, 1, 2, 6] rfl (.cf rfl rfl (.cf rfl rfl (.cf rfl rfl (.cons rfl (.c (.mp rfl (by decide))) (.cf rfl rfl (.cons rfl (.c (lsr rfl rfl)) (.cf rfl rfl (.cr rfl rfl rfl (.cr rfl rfl rfl (.cf rfl rfl .nil)))))))))) (.box (by decide) rfl .map (.row (by decide) rfl (fr_map fun _ => rfl) (.box (by decide) rfl (blkAs_cells (.sm rfl (.sm rfl (.sm rfl (.sm rfl .nil))))) (.box (by decide) rfl (blkAs_cells (.sm rfl (.sm rfl (.sm rfl .nil)))) .nil))))) (Zu hzall_1 h hself hK6 hr)
    ·refine ssr <| un1 (v := (B (decide (x_5.Do = 10)))) rfl <| un1 rfl <| dnil ?_
     refine Sv.cnd rfl h (fun h => ?_) fun h => ?_
     ·refine Sv.drawn2 <| un1 rfl <| un1 (v := (.c (.ref 3 2 0 1))) rfl <| un1 (v := (I x_5.A)) rfl <| un1 rfl <| un1 rfl <| un1 (v := (I (wi (v143 + 1)))) rfl <| un1 (v := (.agg [cB true, cI (wi ((wi (x_6.f_height - r_.1)) + r_.2)), .ro false 2 (x_6.f_tries.map (eA2 eI))])) rfl <| dnil ?_
      refine ⟨?_, ?_⟩
      ·refine un1 (v := (.agg [cB true, cI (wi ((wi (x_6.f_height - r_.1)) + r_.2)), .ro false 2 (x_6.f_tries.map (eA2 eI))])) rfl ?_
       obtain ⟨mp16, hmp16⟩ : ∃ mp16 : (List (Int × Tat)), mp16 = (mset ([] : List (Int × Tat)) x_5.A (⟨true, (wi ((wi (x_6.f_height - r_.1)) + r_.2)), x_6.f_tries⟩ : Tat)) := ⟨_, rfl⟩
       replace h := letAt hmp16 h
       refine un <| a2n (h' := upd _ 6 (mapB (.i .i64) (fun x => cI x) (fun (x : Tat) => (.agg (e_Tat x))) mp16)) (n' := 7) rfl (by rw [hmp16]; exact s_mput (ek := (fun x => cI x)) (ev := (fun (x : Tat) => (.agg (e_Tat x)))) (l := ([] : List (Int × Tat))) (key := x_5.A) (val := (⟨true, (wi ((wi (x_6.f_height - r_.1)) + r_.2)), x_6.f_tries⟩ : Tat)) (fun _ _ => rfl) rfl rfl rfl rfl rfl rfl) hcs ?_
       clear hmp16
       obtain ⟨mp17, hmp17⟩ : ∃ mp17 : (List (Int × Tat)), mp17 = (mset mp16 (wi (v143 + 1)) (⟨true, (wi ((wi (x_6.f_height - r_.1)) + r_.2)), x_6.f_tries⟩ : Tat)) := ⟨_, rfl⟩
       replace h := letAt hmp17 h
       refine un <| a2n (h' := upd _ 6 (mapB (.i .i64) (fun x => cI x) (fun (x : Tat) => (.agg (e_Tat x))) mp17)) (n' := 7) rfl (by rw [hmp17]; exact s_mput (ek := (fun x => cI x)) (ev := (fun (x : Tat) => (.agg (e_Tat x)))) (l := mp16) (key := (wi (v143 + 1))) (val := (⟨true, (wi ((wi (x_6.f_height - r_.1)) + r_.2)), x_6.f_tries⟩ : Tat)) (fun _ _ => rfl) rfl rfl rfl rfl rfl rfl) hcs ?_
       clear hmp17
       refine dnil ?_
       exact Sv.weak (wcn [0, 1, 2, 6] rfl (.cf rfl rfl (.cf rfl rfl (.cf rfl rfl (.cons rfl (.c (.mp rfl (by decide))) (.cf rfl rfl (.cons rfl (.c (lsr rfl rfl)) (.cf rfl rfl (.cr rfl rfl rfl (.cr rfl rfl rfl (.cf rfl rfl .nil)))))))))) (.box (by decide) rfl .map (.row (by decide) rfl (fr_map fun _ => rfl) (.box (by decide) rfl (blkAs_cells (.sm rfl (.sm rfl (.sm rfl (.sm rfl .nil))))) (.box (by decide) rfl (blkAs_cells (.sm rfl (.sm rfl (.sm rfl .nil)))) .nil))))) (Zu hzall_1 h hself hK6 hr)
      ·obtain ⟨mp16, hmp16⟩ : ∃ mp16 : (List (Int × Tat)), mp16 = (mset ([] : List (Int × Tat)) x_5.A (⟨true, (wi ((wi (x_6.f_height - r_.1)) + r_.2)), x_6.f_tries⟩ : Tat)) := ⟨_, rfl⟩
       replace h := letAt hmp16 h
       refine un <| a2n (h' := upd _ 6 (mapB (.i .i64) (fun x => cI x) (fun (x : Tat) => (.agg (e_Tat x))) mp16)) (n' := 7) rfl (by rw [hmp16]; exact s_mput (ek := (fun x => cI x)) (ev := (fun (x : Tat) => (.agg (e_Tat x)))) (l := ([] : List (Int × Tat))) (key := x_5.A) (val := (⟨true, (wi ((wi (x_6.f_height - r_.1)) + r_.2)), x_6.f_tries⟩ : Tat)) (fun _ _ => rfl) rfl rfl rfl rfl rfl rfl) hcs ?_
       clear hmp16
       refine un1 (v := (.agg [cB true, cI (wi ((wi (x_6.f_height - r_.1)) + r_.2)), .ro false 2 (x_6.f_tries.map (eA2 eI))])) rfl ?_
       obtain ⟨mp17, hmp17⟩ : ∃ mp17 : (List (Int × Tat)), mp17 = (mset mp16 (wi (v143 + 1)) (⟨true, (wi ((wi (x_6.f_height - r_.1)) + r_.2)), x_6.f_tries⟩ : Tat)) := ⟨_, rfl⟩
       replace h := letAt hmp17 h
       refine un <| a2n (h' := upd _ 6 (mapB (.i .i64) (fun x => cI x) (fun (x : Tat) => (.agg (e_Tat x))) mp17)) (n' := 7) rfl (by rw [hmp17]; exact s_mput (ek := (fun x => cI x)) (ev := (fun (x : Tat) => (.agg (e_Tat x)))) (l := mp16) (key := (wi (v143 + 1))) (val := (⟨true, (wi ((wi (x_6.f_height - r_.1)) + r_.2)), x_6.f_tries⟩ : Tat)) (fun _ _ => rfl) rfl rfl rfl rfl rfl rfl) hcs ?_
       clear hmp17
       refine dnil ?_
       exact Sv.weak (wcn [0, 1, 2, 6] rfl (.cf rfl rfl (.cf rfl rfl (.cf rfl rfl (.cons rfl (.c (.mp rfl (by decide))) (.cf rfl rfl (.cons rfl (.c (lsr rfl rfl)) (.cf rfl rfl (.cr rfl rfl rfl (.cr rfl rfl rfl (.cf rfl rfl .nil)))))))))) (.box (by decide) rfl .map (.row (by decide) rfl (fr_map fun _ => rfl) (.box (by decide) rfl (blkAs_cells (.sm rfl (.sm rfl (.sm rfl (.sm rfl .nil))))) (.box (by decide) rfl (blkAs_cells (.sm rfl (.sm rfl (.sm rfl .nil)))) .nil))))) (Zu hzall_1 h hself hK6 hr)
     ·refine ssr <| un1 (v := (B (decide (x_5.Do = 24)))) rfl <| un1 rfl <| dnil ?_
      refine Sv.cnd rfl h (fun h => ?_) fun h => ?_
      ·refine ssr <| un1 rfl <| un1 (v := (.c (.ref 3 2 0 1))) rfl <| un1 (v := (I x_5.A)) rfl <| un1 (v := (.agg (e_Tat x_6))) rfl ?_
       obtain ⟨mp18, hmp18⟩ : ∃ mp18 : (List (Int × Tat)), mp18 = (mset ([] : List (Int × Tat)) x_5.A x_6) := ⟨_, rfl⟩
       replace h := letAt hmp18 h
       refine un <| a2n (h' := upd _ 6 (mapB (.i .i64) (fun x => cI x) (fun (x : Tat) => (.agg (e_Tat x))) mp18)) (n' := 7) rfl (by rw [hmp18]; exact s_mput (ek := (fun x => cI x)) (ev := (fun (x : Tat) => (.agg (e_Tat x)))) (l := ([] : List (Int × Tat))) (key := x_5.A) (val := x_6) (fun _ _ => rfl) rfl rfl rfl rfl rfl rfl) hcs ?_
       clear hmp18
       refine dnil <| Sv.seq <| ssr <| un1 (v := (.c (.ref 3 2 0 1))) rfl <| un1 (v := (I x_5.A)) rfl <| un1 rfl <| un1 (v := (I (wi (v143 + 1)))) rfl <| un1 (v := (B (decide (x_5.A = (wi (v143 + 1)))))) rfl <| dnil ?_
       refine Sv.cnd rfl h (fun h => ?_) fun h => ?_
       ·refine ssr <| un1 rfl <| dnil <| Sv.ret ?_
        exact hr _ (rt0 h rfl rfl ⟨rfl, rfl, rfl⟩)
       ·refine Sv.skip <| srg <| un1 rfl <| un1 rfl <| un1 (v := (I (wi (v143 + 1)))) rfl <| un1 (v := (.agg [cB true, cI (wi ((wi (x_6.f_height - r_.1)) + r_.2)), .ro false 2 (x_6.f_tries.map (eA2 eI))])) rfl ?_
        obtain ⟨mp19, hmp19⟩ : ∃ mp19 : (List (Int × Tat)), mp19 = (mset mp18 (wi (v143 + 1)) (⟨true, (wi ((wi (x_6.f_height - r_.1)) + r_.2)), x_6.f_tries⟩ : Tat)) := ⟨_, rfl⟩
        replace h := letAt hmp19 h
        refine un <| a2n (h' := upd _ 6 (mapB (.i .i64) (fun x => cI x) (fun (x : Tat) => (.agg (e_Tat x))) mp19)) (n' := 7) rfl (by rw [hmp19]; exact s_mput (ek := (fun x => cI x)) (ev := (fun (x : Tat) => (.agg (e_Tat x)))) (l := mp18) (key := (wi (v143 + 1))) (val := (⟨true, (wi ((wi (x_6.f_height - r_.1)) + r_.2)), x_6.f_tries⟩ : Tat)) (fun _ _ => rfl) rfl rfl rfl rfl rfl rfl) hcs ?_
        clear hmp19
        refine dnil ?_
        exact Sv.weak (wcn [0, 1, 2, 6] rfl (.cf rfl rfl (.cf rfl rfl (.cf rfl rfl (.cons rfl (.c (.mp rfl (by decide))) (.cf rfl rfl (.cons rfl (.c (lsr rfl rfl)) (.cf rfl rfl (.cr rfl rfl rfl (.cr rfl rfl rfl (.cf rfl rfl .nil)))))))))) (.box (by decide) rfl .map (.row (by decide) rfl (fr_map fun _ => rfl) (.box (by decide) rfl (blkAs_cells (.sm rfl (.sm rfl (.sm rfl (.sm rfl .nil))))) (.box (by decide) rfl (blkAs_cells (.sm rfl (.sm rfl (.sm rfl .nil)))) .nil))))) (Zu hzall_1 h hself hK6 hr)
      ·refine Sv.seq <| ssr <| un1 (v := (B (decide (x_5.Do = 18)))) rfl <| un1 rfl <| dnil ?_
       refine Sv.cnd rfl h (fun h => ?_) fun h => ?_
       ·refine Sv.skip ?_
        exact Sv.weak (wcn [0, 1, 2, 3, 4, 5, 6] rfl (.cf rfl rfl (.cf rfl rfl (.cf rfl rfl (.cf rfl rfl (.cf rfl rfl (.cons rfl (.c (.mp rfl (by decide))) (.cr rfl rfl rfl (.cr rfl rfl rfl (.cr rfl rfl rfl (.cf rfl rfl (.cf rfl rfl (.cons rfl (.c (lsr rfl rfl)) (.cf rfl rfl (.cr rfl rfl rfl (.cr rfl rfl rfl (.cf rfl rfl .nil)))))))))))))))) (.box (by decide) rfl .map (.box (by decide) rfl (blkAs_cells (.sm rfl (.sm rfl (.sm rfl .nil)))) (.box (by decide) rfl (blkAs_cells (.sm rfl (.sm rfl (.sm rfl .nil)))) (.box (by decide) rfl (blkAs_cells (.sm rfl (.sm rfl .nil))) (.row (by decide) rfl (fr_map fun _ => rfl) (.box (by decide) rfl (blkAs_cells (.sm rfl (.sm rfl (.sm rfl (.sm rfl .nil))))) (.box (by decide) rfl (blkAs_cells (.sm rfl (.sm rfl (.sm rfl .nil)))) .nil)))))))) (Z3v hzall_1 h hself hK6 hr)
       ·refine srg <| un1 (v := (B (decide (x_5.Do = 25)))) rfl <| un1 rfl <| dnil ?_
        exact Sv.weak (wcn [0, 1, 2, 3, 4, 5, 6] rfl (.cf rfl rfl (.cf rfl rfl (.cf rfl rfl (.cf rfl rfl (.cf rfl rfl (.cons rfl (.c (.mp rfl (by decide))) (.cr rfl rfl rfl (.cr rfl rfl rfl (.cr rfl rfl rfl (.cf rfl rfl (.cf rfl rfl (.cons rfl (.c (lsr rfl rfl)) (.cf rfl rfl (.cr rfl rfl rfl (.cr rfl rfl rfl (.cf rfl rfl .nil)))))))))))))))) (.box (by decide) rfl .map (.box (by decide) rfl (blkAs_cells (.sm rfl (.sm rfl (.sm rfl .nil)))) (.box (by decide) rfl (blkAs_cells (.sm rfl (.sm rfl (.sm rfl .nil)))) (.box (by decide) rfl (blkAs_cells (.sm rfl (.sm rfl .nil))) (.row (by decide) rfl (fr_map fun _ => rfl) (.box (by decide) rfl (blkAs_cells (.sm rfl (.sm rfl (.sm rfl (.sm rfl .nil))))) (.box (by decide) rfl (blkAs_cells (.sm rfl (.sm rfl (.sm rfl .nil)))) .nil)))))))) (Z3v hzall_1 h hself hK6 hr)
 ·refine Sv.exit ?_
  exact hK6 all_1 more1 zall_1 hzall_1 h _ (wcn [0, 1, 2] rfl (.cf rfl rfl (.cons rfl (.c (lsr rfl rfl)) (.cf rfl rfl (.cr rfl rfl rfl (.cr rfl rfl rfl (.cf rfl rfl .nil)))))) (.row (by decide) rfl (fr_map fun _ => rfl) (.box (by decide) rfl (blkAs_cells (.sm rfl (.sm rfl (.sm rfl (.sm rfl .nil))))) (.box (by decide) rfl (blkAs_cells (.sm rfl (.sm rfl (.sm rfl .nil)))) .nil))))
abbrev Z5r (F_ : Unit → Option Bool) (o : Bool) (R_ : St → Prop) : Prop := ∀ (_ : Unit), F_ () = some o → ∀ s, Weak 0 s ⟨e0, e0, 0⟩ → R_ s
abbrev Z3x (own : Int) (x_ : TJFunc) (p_ : TJProg) (F_ : Nat → (List Tat) → Bool → Option Bool) (o : Bool) : Nat → St → Prop := fun k s => ∃ (all_ : (List Tat)), ∃ (more : Bool), ∃ (zall : Bool), (zall = true → all_ = []) ∧ F_ k all_ more = some o ∧ s = ⟨(ue [(15, (B more)), (14, (lstV zall 2 3 all_.length)), (6, (I (x_.Code.length : Int))), (5, (.c (.ref 1 4 0 0))), (2, (.c (.ref 0 3 0 0))), (1, (I own))]), (upd (upd (upd e0 0 (some (.cells 3 [(e_TJProg p_)]))) 1 (some (.cells 4 [(e_TJFunc x_)]))) 2 (lstB zall 3 (all_.map e_Tat))), 3⟩
abbrev Z5s (own : Int) (x_ : TJFunc) (p_ : TJProg) (F_ : (List Tat) → Bool → Option Bool) (o : Bool) (R_ : St → Prop) : Prop := ∀ (all_ : (List Tat)) (more : Bool) (zall : Bool) (_ : zall = true → all_ = []), F_ all_ more = some o → ∀ s, Weak 0 s ⟨(ue [(15, (B more)), (14, (lstV zall 2 3 all_.length)), (6, (I (x_.Code.length : Int))), (5, (.c (.ref 1 4 0 0))), (2, (.c (.ref 0 3 0 0))), (1, (I own))]), (upd (upd (upd e0 0 (some (.cells 3 [(e_TJProg p_)]))) 1 (some (.cells 4 [(e_TJFunc x_)]))) 2 (lstB zall 3 (all_.map e_Tat))), 3⟩ → R_ s
noncomputable def Z7 (x_ : TJFunc) (own : Int) (p_ : TJProg) (K4_ : Unit → Option Bool) : Nat → (List Tat) → Bool → Option Bool
 | 0, _, _ => none
 | k + 1, all_, more =>
  if more then
   lim fun kk2 => Z0 x_ own p_ (fun (all_2 : (List Tat)) (more2 : Bool) => 
     (Z7 x_ own p_ K4_ k) all_2 more2) kk2 all_ false 0
  else
   K4_ ()
theorem Z5t {Q : AExit → St → Prop} {x_ : TJFunc} {own : Int} {p_ : TJProg} {K4_ : Unit → Option Bool} {k : Nat} {all_ : (List Tat)} {more : Bool} {zall : Bool} (hzall : zall = true → all_ = []) {o : Bool} (h : Z7 x_ own p_ K4_ k all_ more = some o)
  (hK4 : Z5r K4_ o (Q (.exit 4)))
  (hr : ∀ s, Ends a7.results 0 (Zc o) .ret s → Q .ret s) :
  Sv Tryd.prog GG 0 (.loop a7_c12) Q ⟨(ue [(15, (B more)), (14, (lstV zall 2 3 all_.length)), (6, (I (x_.Code.length : Int))), (5, (.c (.ref 1 4 0 0))), (2, (.c (.ref 0 3 0 0))), (1, (I own))]), (upd (upd (upd e0 0 (some (.cells 3 [(e_TJProg p_)]))) 1 (some (.cells 4 [(e_TJFunc x_)]))) 2 (lstB zall 3 (all_.map e_Tat))), 3⟩ := by
 refine Sv.loop (I := Z3x own x_ p_ (Z7 x_ own p_ K4_) o) (fun k s hI => ?_) ⟨all_, more, zall, hzall, h, rfl⟩
 clear h
 clear hzall zall more all_
 obtain ⟨all_, more, zall, hzall, h, rfl⟩ := hI
 cases k with
 | zero => cases h
 | succ k =>
 rw [Z7] at h
 have hself : Z5s own x_ p_ (Z7 x_ own p_ K4_ k) o (rnd 0 (Z3x own x_ p_ (Z7 x_ own p_ K4_) o) k Q) := fun all_ more zall hzall h s hw => ⟨_, k, hw, Nat.lt_succ_self k, all_, more, zall, hzall, h, rfl⟩
 refine Sv.seq <| ssr <| un1 rfl <| dnil ?_
 refine Sv.cnd rfl h (fun h => ?_) fun h => ?_
 ·refine Sv.skip <| Sv.block <| ssr <| un1 rfl <| dnil <| ssr <| un1 (v := (.c (.ref 1 4 0 3))) rfl <| un1 (v := (.c (.ro false 2 (x_.Code.map e_TJIns)))) rfl <| un1 (v := (I (x_.Code.length : Int))) (s_len (e := e_TJIns) (xs := x_.Code) rfl) <| un1 rfl <| dnil <| Sv.block ?_
  obtain ⟨kk2, h⟩ := lim_some h
  refine Sv.weak (wcn [0, 1, 2] rfl (.cf rfl rfl (.cf rfl rfl (.cf rfl rfl (.cf rfl rfl (.cons rfl (.c (lsr rfl rfl)) (.cf rfl rfl (.cr rfl rfl rfl (.cr rfl rfl rfl (.cf rfl rfl .nil))))))))) (.row (by decide) rfl (fr_map fun _ => rfl) (.box (by decide) rfl (blkAs_cells (.sm rfl (.sm rfl (.sm rfl (.sm rfl .nil))))) (.box (by decide) rfl (blkAs_cells (.sm rfl (.sm rfl (.sm rfl .nil)))) .nil)))) (Z5q hzall h ?_ hr)
  ·intro all_2 more2 zall_2 hzall_2 h _ hw4
   exact hself all_2 more2 zall_2 hzall_2 h _ (hw4.trans (wcn [0, 1, 2] rfl (.cf rfl rfl (.cons rfl (.c (lsr rfl rfl)) (.cf rfl rfl (.cr rfl rfl rfl (.cr rfl rfl rfl (.cf rfl rfl .nil)))))) (.row (by decide) rfl (fr_map fun _ => rfl) (.box (by decide) rfl (blkAs_cells (.sm rfl (.sm rfl (.sm rfl (.sm rfl .nil))))) (.box (by decide) rfl (blkAs_cells (.sm rfl (.sm rfl (.sm rfl .nil)))) .nil)))))
 ·refine Sv.exit ?_
  exact hK4 () h _ (wcn [] rfl .nil .nil)
/-- clerestory/clerestoryref4.FuncRight -/
noncomputable def Z1w (p_ : TJProg) (own : Int) : Option Bool :=
 (at? p_.Funcs own).bind fun x_ =>
 if ((((decide (x_.Params < 0)) || (decide (x_.Slots < 0))) || (decide ((wi (x_.Slots - (x_.Caught.length : Int))) < x_.Params))) || (decide ((x_.Code.length : Int) = 0))) then
  some false
 else
  letIn (mset ([] : List (Int × Int)) 1 (p_.Consts.length : Int)) fun mp : (List (Int × Int)) =>
  letIn (mset mp 2 x_.Slots) fun mp1 : (List (Int × Int)) =>
  letIn (mset mp1 3 x_.Slots) fun mp2 : (List (Int × Int)) =>
  letIn (mset mp2 4 x_.Slots) fun mp3 : (List (Int × Int)) =>
  letIn (mset mp3 5 x_.Slots) fun mp4 : (List (Int × Int)) =>
  letIn (mset mp4 7 2) fun mp5 : (List (Int × Int)) =>
  letIn (mset mp5 8 11) fun mp6 : (List (Int × Int)) =>
  letIn (mset mp6 9 (x_.Code.length : Int)) fun mp7 : (List (Int × Int)) =>
  letIn (mset mp7 10 (x_.Code.length : Int)) fun mp8 : (List (Int × Int)) =>
  letIn (mset mp8 12 401) fun mp9 : (List (Int × Int)) =>
  letIn (mset mp9 13 (p_.Shapes.length : Int)) fun mp10 : (List (Int × Int)) =>
  letIn (mset mp10 16 (p_.Funcs.length : Int)) fun mp11 : (List (Int × Int)) =>
  letIn (mset mp11 17 401) fun mp12 : (List (Int × Int)) =>
  letIn (mset mp12 20 (x_.Code.length : Int)) fun mp13 : (List (Int × Int)) =>
  letIn (mset mp13 24 (x_.Code.length : Int)) fun mp14 : (List (Int × Int)) =>
  lim fun kk4 => Z2 x_ mp14 p_ own (fun (_ : Unit) => 
    (mkl? 40 (wi ((x_.Code.length : Int) + 1)) (wi ((x_.Code.length : Int) + 1)) ((⟨false, 0, []⟩ : Tat) : Tat)).bind fun row =>
    (at? row 0).bind fun x_4 =>
    lim fun kk3 => Z7 x_ own p_ (fun (_ : Unit) => 
      some true) kk3 (row.set (0 : Int).toNat (⟨true, x_4.f_height, x_4.f_tries⟩ : Tat)) true) kk4 0
theorem Z5u {p_ : TJProg} {own : Int} {r : Bool} (h : Z1w p_ own = some r) : CPure Tryd.prog GG 7 [(.agg (e_TJProg p_)), (I own)] (B r) := by
 refine acalls_of_sv hmix c7 (R := Zc r) ?_
 unfold Z1w at h
 refine ssr <| un <| a2v (v := (.c (.ref 0 3 0 0))) (h' := upd _ 0 (some (.cells 3 [(e_TJProg p_)]))) (n' := 1) rfl rfl hcs <| un1 rfl <| dnil <| ssr <| un1 (v := (.c (.ref 0 3 0 0))) rfl <| un1 (v := (.c (.ro false 4 (p_.Funcs.map e_TJFunc)))) rfl <| un1 rfl ?_
 obtain ⟨x_, hx1, h⟩ := bnd h
 refine un1 (v := (.c (.rop (e_TJFunc x_)))) (s_iaddr (e := e_TJFunc) (xs := p_.Funcs) rfl rfl hx1) <| un1 (v := (.agg (e_TJFunc x_))) rfl <| un <| a2v (v := (.c (.ref 1 4 0 0))) (h' := upd _ 1 (some (.cells 4 [[cI 0, cI 0, .ro true 1 [], .ro true 2 []]]))) (n' := 2) rfl rfl hcs <| un <| a2n (h' := upd _ 1 (some (.cells 4 [(e_TJFunc x_)]))) (n' := 2) rfl rfl hcs <| dnil <| ssr <| un1 (v := (.c (.ref 1 4 0 3))) rfl <| un1 (v := (.c (.ro false 2 (x_.Code.map e_TJIns)))) rfl <| un1 (v := (I (x_.Code.length : Int))) (s_len (e := e_TJIns) (xs := x_.Code) rfl) <| un1 rfl <| dnil <| Sv.seq <| ssr <| un1 (v := (.c (.ref 1 4 0 0))) rfl <| un1 (v := (I x_.Params)) rfl <| un1 (v := (B (decide (x_.Params < 0)))) rfl <| un1 rfl ?_
 refine gjoin 4 (d := 40) (v := (B ((decide (x_.Params < 0)) || (decide (x_.Slots < 0))))) (fun X hX => ?_) ?_
 ·refine split2 (fun hc1 => ?_) (fun hc1 => ?_)
  ·refine gs rfl rfl <| gs rfl rfl <| gs rfl rfl <| un1 (v := (B true)) rfl <| dnil ?_
   exact hX _ (.putEq (by rw [hc1]; rfl) (.skp (.skp (.skp (.putEq (by rw [hc1]) (.refl _)) rfl) rfl) rfl))
  ·refine gt rfl <| a1 (v := (.c (.ref 1 4 0 1))) rfl <| gt rfl <| a1 (v := (I x_.Slots)) rfl <| gt rfl <| a1 (v := (B (decide (x_.Slots < 0)))) rfl <| un1 (v := (B (decide (x_.Slots < 0)))) rfl <| dnil ?_
   exact hX _ (.putEq (by rw [hc1]; rfl) (.skp (.skp (.skp (.putEq (by rw [hc1]) (.refl _)) rfl) rfl) rfl))
 refine un1 rfl ?_
 refine gjoin 10 (d := 51) (v := (B (((decide (x_.Params < 0)) || (decide (x_.Slots < 0))) || (decide ((wi (x_.Slots - (x_.Caught.length : Int))) < x_.Params))))) (fun X hX => ?_) ?_
 ·refine split2 (fun hc2 => ?_) (fun hc2 => ?_)
  ·repeat (first | refine gu rfl ?_ | refine gs rfl rfl ?_)
   refine un1 (v := (B true)) rfl <| dnil ?_
   exact hX _ (.putEq (by rw [hc2]; rfl) (by repeat (first | exact .putEq (by rw [hc2]) (.refl _) | refine .skp ?_ rfl)))
  ·refine gt rfl <| a1 (v := (.c (.ref 1 4 0 0))) rfl <| gt rfl <| a1 (v := (I x_.Params)) rfl <| gt rfl <| a1 (v := (.c (.ref 1 4 0 1))) rfl <| gt rfl <| a1 (v := (I x_.Slots)) rfl <| gt rfl <| a1 (v := (.c (.ref 1 4 0 2))) rfl <| gt rfl <| a1 (v := (.c (.ro false 1 (x_.Caught.map eI)))) rfl <| gt rfl <| a1 (v := (I (x_.Caught.length : Int))) (s_len (e := eI) (xs := x_.Caught) rfl) <| gt rfl <| a1 (v := (I (wi (x_.Slots - (x_.Caught.length : Int))))) rfl <| gt rfl <| a1 (v := (B (decide ((wi (x_.Slots - (x_.Caught.length : Int))) < x_.Params)))) rfl <| un1 (v := (B (decide ((wi (x_.Slots - (x_.Caught.length : Int))) < x_.Params)))) rfl <| dnil ?_
   exact hX _ (.putEq (by rw [hc2]; rfl) (by repeat (first | exact .putEq (by rw [hc2]) (.refl _) | refine .skp ?_ rfl)))
 refine un1 rfl ?_
 refine gjoin 3 (d := 55) (v := (B ((((decide (x_.Params < 0)) || (decide (x_.Slots < 0))) || (decide ((wi (x_.Slots - (x_.Caught.length : Int))) < x_.Params))) || (decide ((x_.Code.length : Int) = 0))))) (fun X hX => ?_) ?_
 ·refine split2 (fun hc3 => ?_) (fun hc3 => ?_)
  ·refine gs rfl rfl <| gs rfl rfl <| un1 (v := (B true)) rfl <| dnil ?_
   exact hX _ (.putEq (by rw [hc3]; rfl) (.skp (.skp (.putEq (by rw [hc3]) (.refl _)) rfl) rfl))
  ·refine gt rfl <| a1 rfl <| gt rfl <| a1 (v := (B (decide ((x_.Code.length : Int) = 0)))) rfl <| un1 (v := (B (decide ((x_.Code.length : Int) = 0)))) rfl <| dnil ?_
   exact hX _ (.putEq (by rw [hc3]; rfl) (.skp (.skp (.putEq (by rw [hc3]) (.refl _)) rfl) rfl))
 refine dnil ?_
 refine Sv.cnd rfl h (fun h => ?_) fun h => ?_
 ·refine ssr <| un1 rfl <| dnil <| Sv.ret ?_
  exact rt0 h rfl rfl ⟨rfl, rfl, rfl⟩
 ·refine Sv.skip <| ssr <| un <| a2v (v := (.c (.mp 2))) (h' := upd _ 2 (mapB (.i .i64) (fun x => cI x) (fun (x : Int) => (I x)) ([] : List (Int × Int)))) (n' := 3) rfl rfl hcs <| un1 (v := (.c (.ref 0 3 0 1))) rfl <| un1 (v := (.c (.ro false 3 (p_.Consts.map e_TJVal)))) rfl <| un1 (v := (I (p_.Consts.length : Int))) (s_len (e := e_TJVal) (xs := p_.Consts) rfl) ?_
  obtain ⟨mp, hmp⟩ : ∃ mp : (List (Int × Int)), mp = (mset ([] : List (Int × Int)) 1 (p_.Consts.length : Int)) := ⟨_, rfl⟩
  replace h := letAt hmp h
  refine un <| a2n (h' := upd _ 2 (mapB (.i .i64) (fun x => cI x) (fun (x : Int) => (I x)) mp)) (n' := 3) rfl (by rw [hmp]; exact s_mput (ek := (fun x => cI x)) (ev := (fun (x : Int) => (I x))) (l := ([] : List (Int × Int))) (key := 1) (val := (p_.Consts.length : Int)) (fun _ _ => rfl) rfl rfl rfl rfl rfl rfl) hcs ?_
  clear hmp
  refine un1 (v := (.c (.ref 1 4 0 1))) rfl <| un1 (v := (I x_.Slots)) rfl ?_
  obtain ⟨mp1, hmp1⟩ : ∃ mp1 : (List (Int × Int)), mp1 = (mset mp 2 x_.Slots) := ⟨_, rfl⟩
  replace h := letAt hmp1 h
  refine un <| a2n (h' := upd _ 2 (mapB (.i .i64) (fun x => cI x) (fun (x : Int) => (I x)) mp1)) (n' := 3) rfl (by rw [hmp1]; exact s_mput (ek := (fun x => cI x)) (ev := (fun (x : Int) => (I x))) (l := mp) (key := 2) (val := x_.Slots) (fun _ _ => rfl) rfl rfl rfl rfl rfl rfl) hcs ?_
  clear hmp1
  refine un1 (v := (.c (.ref 1 4 0 1))) rfl <| un1 (v := (I x_.Slots)) rfl ?_
  obtain ⟨mp2, hmp2⟩ : ∃ mp2 : (List (Int × Int)), mp2 = (mset mp1 3 x_.Slots) := ⟨_, rfl⟩
  replace h := letAt hmp2 h
  refine un <| a2n (h' := upd _ 2 (mapB (.i .i64) (fun x => cI x) (fun (x : Int) => (I x)) mp2)) (n' := 3) rfl (by rw [hmp2]; exact s_mput (ek := (fun x => cI x)) (ev := (fun (x : Int) => (I x))) (l := mp1) (key := 3) (val := x_.Slots) (fun _ _ => rfl) rfl rfl rfl rfl rfl rfl) hcs ?_
  clear hmp2
  refine un1 (v := (.c (.ref 1 4 0 1))) rfl <| un1 (v := (I x_.Slots)) rfl ?_
  obtain ⟨mp3, hmp3⟩ : ∃ mp3 : (List (Int × Int)), mp3 = (mset mp2 4 x_.Slots) := ⟨_, rfl⟩
  replace h := letAt hmp3 h
  refine un <| a2n (h' := upd _ 2 (mapB (.i .i64) (fun x => cI x) (fun (x : Int) => (I x)) mp3)) (n' := 3) rfl (by rw [hmp3]; exact s_mput (ek := (fun x => cI x)) (ev := (fun (x : Int) => (I x))) (l := mp2) (key := 4) (val := x_.Slots) (fun _ _ => rfl) rfl rfl rfl rfl rfl rfl) hcs ?_
  clear hmp3
  refine un1 (v := (.c (.ref 1 4 0 1))) rfl <| un1 (v := (I x_.Slots)) rfl ?_
  obtain ⟨mp4, hmp4⟩ : ∃ mp4 : (List (Int × Int)), mp4 = (mset mp3 5 x_.Slots) := ⟨_, rfl⟩
  replace h := letAt hmp4 h
  refine un <| a2n (h' := upd _ 2 (mapB (.i .i64) (fun x => cI x) (fun (x : Int) => (I x)) mp4)) (n' := 3) rfl (by rw [hmp4]; exact s_mput (ek := (fun x => cI x)) (ev := (fun (x : Int) => (I x))) (l := mp3) (key := 5) (val := x_.Slots) (fun _ _ => rfl) rfl rfl rfl rfl rfl rfl) hcs ?_
  clear hmp4
  obtain ⟨mp5, hmp5⟩ : ∃ mp5 : (List (Int × Int)), mp5 = (mset mp4 7 2) := ⟨_, rfl⟩
  replace h := letAt hmp5 h
  refine un <| a2n (h' := upd _ 2 (mapB (.i .i64) (fun x => cI x) (fun (x : Int) => (I x)) mp5)) (n' := 3) rfl (by rw [hmp5]; exact s_mput (ek := (fun x => cI x)) (ev := (fun (x : Int) => (I x))) (l := mp4) (key := 7) (val := 2) (fun _ _ => rfl) rfl rfl rfl rfl rfl rfl) hcs ?_
  clear hmp5
  obtain ⟨mp6, hmp6⟩ : ∃ mp6 : (List (Int × Int)), mp6 = (mset mp5 8 11) := ⟨_, rfl⟩
  replace h := letAt hmp6 h
  refine un <| a2n (h' := upd _ 2 (mapB (.i .i64) (fun x => cI x) (fun (x : Int) => (I x)) mp6)) (n' := 3) rfl (by rw [hmp6]; exact s_mput (ek := (fun x => cI x)) (ev := (fun (x : Int) => (I x))) (l := mp5) (key := 8) (val := 11) (fun _ _ => rfl) rfl rfl rfl rfl rfl rfl) hcs ?_
  clear hmp6
  refine un1 rfl ?_
  obtain ⟨mp7, hmp7⟩ : ∃ mp7 : (List (Int × Int)), mp7 = (mset mp6 9 (x_.Code.length : Int)) := ⟨_, rfl⟩
  replace h := letAt hmp7 h
  refine un <| a2n (h' := upd _ 2 (mapB (.i .i64) (fun x => cI x) (fun (x : Int) => (I x)) mp7)) (n' := 3) rfl (by rw [hmp7]; exact s_mput (ek := (fun x => cI x)) (ev := (fun (x : Int) => (I x))) (l := mp6) (key := 9) (val := (x_.Code.length : Int)) (fun _ _ => rfl) rfl rfl rfl rfl rfl rfl) hcs ?_
  clear hmp7
  refine un1 rfl ?_
  obtain ⟨mp8, hmp8⟩ : ∃ mp8 : (List (Int × Int)), mp8 = (mset mp7 10 (x_.Code.length : Int)) := ⟨_, rfl⟩
  replace h := letAt hmp8 h
  refine un <| a2n (h' := upd _ 2 (mapB (.i .i64) (fun x => cI x) (fun (x : Int) => (I x)) mp8)) (n' := 3) rfl (by rw [hmp8]; exact s_mput (ek := (fun x => cI x)) (ev := (fun (x : Int) => (I x))) (l := mp7) (key := 10) (val := (x_.Code.length : Int)) (fun _ _ => rfl) rfl rfl rfl rfl rfl rfl) hcs ?_
  clear hmp8
  obtain ⟨mp9, hmp9⟩ : ∃ mp9 : (List (Int × Int)), mp9 = (mset mp8 12 401) := ⟨_, rfl⟩
  replace h := letAt hmp9 h
  refine un <| a2n (h' := upd _ 2 (mapB (.i .i64) (fun x => cI x) (fun (x : Int) => (I x)) mp9)) (n' := 3) rfl (by rw [hmp9]; exact s_mput (ek := (fun x => cI x)) (ev := (fun (x : Int) => (I x))) (l := mp8) (key := 12) (val := 401) (fun _ _ => rfl) rfl rfl rfl rfl rfl rfl) hcs ?_
  clear hmp9
  refine un1 (v := (.c (.ref 0 3 0 2))) rfl <| un1 (v := (.c (.ro false 1 (p_.Shapes.map (eSl 1 eStr))))) rfl <| un1 (v := (I (p_.Shapes.length : Int))) (s_len (e := (eSl 1 eStr)) (xs := p_.Shapes) rfl) ?_
  obtain ⟨mp10, hmp10⟩ : ∃ mp10 : (List (Int × Int)), mp10 = (mset mp9 13 (p_.Shapes.length : Int)) := ⟨_, rfl⟩
  replace h := letAt hmp10 h
  refine un <| a2n (h' := upd _ 2 (mapB (.i .i64) (fun x => cI x) (fun (x : Int) => (I x)) mp10)) (n' := 3) rfl (by rw [hmp10]; exact s_mput (ek := (fun x => cI x)) (ev := (fun (x : Int) => (I x))) (l := mp9) (key := 13) (val := (p_.Shapes.length : Int)) (fun _ _ => rfl) rfl rfl rfl rfl rfl rfl) hcs ?_
  clear hmp10
  refine un1 (v := (.c (.ref 0 3 0 0))) rfl <| un1 (v := (.c (.ro false 4 (p_.Funcs.map e_TJFunc)))) rfl <| un1 (v := (I (p_.Funcs.length : Int))) (s_len (e := e_TJFunc) (xs := p_.Funcs) rfl) ?_
  obtain ⟨mp11, hmp11⟩ : ∃ mp11 : (List (Int × Int)), mp11 = (mset mp10 16 (p_.Funcs.length : Int)) := ⟨_, rfl⟩
  replace h := letAt hmp11 h
  refine un <| a2n (h' := upd _ 2 (mapB (.i .i64) (fun x => cI x) (fun (x : Int) => (I x)) mp11)) (n' := 3) rfl (by rw [hmp11]; exact s_mput (ek := (fun x => cI x)) (ev := (fun (x : Int) => (I x))) (l := mp10) (key := 16) (val := (p_.Funcs.length : Int)) (fun _ _ => rfl) rfl rfl rfl rfl rfl rfl) hcs ?_
  clear hmp11
  obtain ⟨mp12, hmp12⟩ : ∃ mp12 : (List (Int × Int)), mp12 = (mset mp11 17 401) := ⟨_, rfl⟩
  replace h := letAt hmp12 h
  refine un <| a2n (h' := upd _ 2 (mapB (.i .i64) (fun x => cI x) (fun (x : Int) => (I x)) mp12)) (n' := 3) rfl (by rw [hmp12]; exact s_mput (ek := (fun x => cI x)) (ev := (fun (x : Int) => (I x))) (l := mp11) (key := 17) (val := 401) (fun _ _ => rfl) rfl rfl rfl rfl rfl rfl) hcs ?_
  clear hmp12
  refine un1 rfl ?_
  obtain ⟨mp13, hmp13⟩ : ∃ mp13 : (List (Int × Int)), mp13 = (mset mp12 20 (x_.Code.length : Int)) := ⟨_, rfl⟩
  replace h := letAt hmp13 h
  refine un <| a2n (h' := upd _ 2 (mapB (.i .i64) (fun x => cI x) (fun (x : Int) => (I x)) mp13)) (n' := 3) rfl (by rw [hmp13]; exact s_mput (ek := (fun x => cI x)) (ev := (fun (x : Int) => (I x))) (l := mp12) (key := 20) (val := (x_.Code.length : Int)) (fun _ _ => rfl) rfl rfl rfl rfl rfl rfl) hcs ?_
  clear hmp13
  refine un1 rfl ?_
  obtain ⟨mp14, hmp14⟩ : ∃ mp14 : (List (Int × Int)), mp14 = (mset mp13 24 (x_.Code.length : Int)) := ⟨_, rfl⟩
  replace h := letAt hmp14 h
  refine un <| a2n (h' := upd _ 2 (mapB (.i .i64) (fun x => cI x) (fun (x : Int) => (I x)) mp14)) (n' := 3) rfl (by rw [hmp14]; exact s_mput (ek := (fun x => cI x)) (ev := (fun (x : Int) => (I x))) (l := mp13) (key := 24) (val := (x_.Code.length : Int)) (fun _ _ => rfl) rfl rfl rfl rfl rfl rfl) hcs ?_
  clear hmp14
  refine un1 rfl <| un1 rfl <| dnil <| Sv.seq <| ssr <| un1 (v := (.c (.ref 1 4 0 3))) rfl <| un1 (v := (.c (.ro false 2 (x_.Code.map e_TJIns)))) rfl <| un1 (v := (I (x_.Code.length : Int))) (s_len (e := e_TJIns) (xs := x_.Code) rfl) <| un1 rfl <| dnil <| Sv.block ?_
  obtain ⟨kk4, h⟩ := lim_some h
  refine Sv.weak (wcn [0, 1, 2] rfl (.cf rfl rfl (.cf rfl rfl (.cf rfl rfl (.cons rfl (.c (.mp rfl (by decide))) (.cf rfl rfl (.cr rfl rfl rfl (.cr rfl rfl rfl (.cf rfl rfl .nil)))))))) (.box (by decide) rfl .map (.box (by decide) rfl (blkAs_cells (.sm rfl (.sm rfl (.sm rfl (.sm rfl .nil))))) (.box (by decide) rfl (blkAs_cells (.sm rfl (.sm rfl (.sm rfl .nil)))) .nil)))) (Z5k h ?_ (fun s hs => hs))
  ·intro _ h _ hw2
   refine Sv.weak hw2 <| ssr <| un1 rfl <| un1 (v := (I (wi ((x_.Code.length : Int) + 1)))) rfl ?_
   obtain ⟨row, hx5, h⟩ := bnd h
   refine un <| a2mk (e := e_Tat) rfl rfl hx5 (fun _ _ => (.sm rfl (.sm rfl (.cons .nil .nil)))) <| un1 rfl <| dnil <| ssr <| un1 rfl ?_
   obtain ⟨x_4, hx6, h⟩ := bnd h
   refine un1 (v := (.c (.ref 2 3 (0 : Int).toNat 0))) (s_iaddrL rfl rfl hcs hx6) <| un1 (v := (.c (.ref 2 3 (0 : Int).toNat 0))) rfl <| un <| a2n (h' := upd _ 2 (lstB false 3 ((row.set (0 : Int).toNat (⟨true, x_4.f_height, x_4.f_tries⟩ : Tat)).map e_Tat))) (n' := 3) rfl (s_storeL (e := e_Tat) (q' := (⟨true, x_4.f_height, x_4.f_tries⟩ : Tat)) rfl rfl hcs hx6 rfl rfl rfl (Nat.le_of_ble_eq_true rfl) rfl) hcs ?_
   try rw [len_set row (0 : Int).toNat (⟨true, x_4.f_height, x_4.f_tries⟩ : Tat)]
   refine dnil <| Sv.seq <| ssr <| un1 rfl <| dnil <| Sv.block ?_
   obtain ⟨kk3, h⟩ := lim_some h
   refine Sv.weak (wcn [0, 1, 2] rfl (.cf rfl rfl (.cons rfl (.c (lsr rfl rfl)) (.cf rfl rfl (.cr rfl rfl rfl (.cr rfl rfl rfl (.cf rfl rfl .nil)))))) (.row (by decide) rfl (fr_map fun _ => rfl) (.box (by decide) rfl (blkAs_cells (.sm rfl (.sm rfl (.sm rfl (.sm rfl .nil))))) (.box (by decide) rfl (blkAs_cells (.sm rfl (.sm rfl (.sm rfl .nil)))) .nil)))) (Z5t (hz_len hcs (len_set row (0 : Int).toNat (⟨true, x_4.f_height, x_4.f_tries⟩ : Tat))) h ?_ (fun s hs => hs))
   ·intro _ h _ hw5
    refine Sv.weak hw5 <| ssr <| un1 rfl <| dnil <| Sv.ret ?_
    exact rt0 h rfl rfl ⟨rfl, rfl, rfl⟩
def a5_c0 : ACode := (sr [(oP 27 (.bin .lss (.tmp 26) (.tmp 25)))]
 (.seq (.cond (.tmp 27) .skip (.exit 0))
 (.seq (.block 1 (sr [(oP 28 (.iaddr 4 (.tmp 24) (.tmp 26))), (oP 29 (.load true 4 (.tmp 28))), (oP 5 (.box (.const (.agg [(.val (.int .i64 0)), (.val (.int .i64 0)), (.ro true 1 []), (.ro true 2 [])])))), (oN (.store 4 (.tmp 5) (.tmp 29)))]
 (.region [(mV 30 3), (mV 31 30), ⟨(some 32), (.faddr 3 (.tmp 5)), (some (31, false))⟩, ⟨(some 33), (.load false 1 (.tmp 32)), (some (31, false))⟩, ⟨(some 34), (.len (.tmp 33)), (some (31, false))⟩, ⟨(some 35), (.bin .gtr (.tmp 34) (kI 8000)), (some (31, false))⟩, (oP 36 (.pick (.tmp 31) kT (.tmp 35))), (mV 37 36), ⟨(some 38), (.faddr 1 (.tmp 5)), (some (37, false))⟩, ⟨(some 39), (.load false 1 (.tmp 38)), (some (37, false))⟩, ⟨(some 40), (.bin .gtr (.tmp 39) (kI 400)), (some (37, false))⟩, (oP 41 (.pick (.tmp 37) kT (.tmp 40))), (mV 3 41)])))
 (.region [(oP 42 (.bin .add (.tmp 26) (kI 1))), (mV 26 42)]))))
def a5_c1 : ACode := (.cond (.tmp 45) (sr [(oP 2 (.mov (kI 3)))]
 .ret) .skip)
def a5_c2 : ACode := (sr [(oP 62 (.bin .lss (.tmp 61) (.tmp 60)))]
 (.seq (.cond (.tmp 62) .skip (.exit 3))
 (.seq (.block 4 (sr [(mV 63 61), (mV 6 63)]
 (sr [(oP 64 (.load true 3 (.tmp 1))), (mV 65 6), (oP 66 (.call 7 [(.tmp 64), (.tmp 65)])), (oP 67 (.un .not (.tmp 66)))]
 (.cond (.tmp 67) (sr [(oP 2 (.mov (kI 3)))]
 .ret) .skip))))
 (.region [(oP 68 (.bin .add (.tmp 61) (kI 1))), (mV 61 68)]))))
def a5_c3 : ACode := (.seq (sr [(oP 58 (.faddr 0 (.tmp 1))), (oP 59 (.load false 1 (.tmp 58))), (oP 60 (.len (.tmp 59))), (oP 61 (.mov (kI 0)))]
 (.block 3 (.loop a5_c2)))
 (sr [(oP 2 (.mov (kI 0)))]
 .ret))
def a5 : AFunc := ⟨1, [(.tmp 2)], (sr [(oP 1 (.box (.tmp 0))), (oP 2 (.mov (kI 0)))]
 (sr [(oP 7 (.faddr 0 (.tmp 1))), (oP 8 (.load false 1 (.tmp 7))), (oP 9 (.len (.tmp 8))), (oP 10 (.bin .gtr (.tmp 9) (kI 400))), (mV 11 10), ⟨(some 12), (.faddr 1 (.tmp 1)), (some (11, false))⟩, ⟨(some 13), (.load false 1 (.tmp 12)), (some (11, false))⟩, ⟨(some 14), (.len (.tmp 13)), (some (11, false))⟩, ⟨(some 15), (.bin .gtr (.tmp 14) (kI 400)), (some (11, false))⟩, (oP 16 (.pick (.tmp 11) kT (.tmp 15))), (mV 17 16), ⟨(some 18), (.faddr 2 (.tmp 1)), (some (17, false))⟩, ⟨(some 19), (.load false 1 (.tmp 18)), (some (17, false))⟩, ⟨(some 20), (.len (.tmp 19)), (some (17, false))⟩, ⟨(some 21), (.bin .gtr (.tmp 20) (kI 400)), (some (17, false))⟩, (oP 22 (.pick (.tmp 17) kT (.tmp 21))), (mV 3 22)]
 (.seq (sr [(oP 23 (.faddr 0 (.tmp 1))), (oP 24 (.load false 1 (.tmp 23))), (oP 25 (.len (.tmp 24))), (oP 26 (.mov (kI 0)))]
 (.block 0 (.loop a5_c0)))
 (.seq (.block 2 (sr [(mV 44 3), (mV 43 44)]
 (.cond (.tmp 43) (sr [(oP 2 (.mov (kI 2)))]
 .ret) (sr [(oP 46 (.faddr 0 (.tmp 1))), (oP 47 (.load false 1 (.tmp 46))), (oP 48 (.len (.tmp 47))), (oP 49 (.bin .eql (.tmp 48) (kI 0))), (mV 50 49), ⟨(some 51), (.faddr 0 (.tmp 1)), (some (50, false))⟩, ⟨(some 52), (.load false 1 (.tmp 51)), (some (50, false))⟩, ⟨(some 53), (.iaddr 4 (.tmp 52) (kI 0)), (some (50, false))⟩, ⟨(some 54), (.faddr 0 (.tmp 53)), (some (50, false))⟩, ⟨(some 55), (.load false 1 (.tmp 54)), (some (50, false))⟩, ⟨(some 56), (.bin .neq (.tmp 55) (kI 0)), (some (50, false))⟩, (oP 57 (.pick (.tmp 50) kT (.tmp 56))), (mV 45 57)]
 a5_c1))))
 a5_c3))))⟩
theorem c5 : compFunc Tryd.prog 5 = some a5 := by kernel_rfl
def Z1x (r : Int) : AV → Heap → Nat → Prop := fun v h' n' => v = (I r) ∧ (h' = e0) ∧ n' = 0
abbrev Z5v (p_ : TJProg) (F_ : Bool → Option Int) (o : Int) (R_ : St → Prop) : Prop := ∀ (large1 : Bool), F_ large1 = some o → ∀ s, Weak 0 s ⟨(ue [(3, (B large1)), (1, (.c (.ref 0 3 0 0)))]), (upd e0 0 (some (.cells 3 [(e_TJProg p_)]))), 1⟩ → R_ s
abbrev Z3y (p_ : TJProg) (F_ : Nat → Bool → Int → Option Int) (o : Int) : Nat → St → Prop := fun k s => ∃ (large : Bool), ∃ (v26 : Int), F_ k large v26 = some o ∧ s = ⟨(ue [(26, (I v26)), (25, (I (p_.Funcs.length : Int))), (24, (.c (.ro false 4 (p_.Funcs.map e_TJFunc)))), (3, (B large)), (1, (.c (.ref 0 3 0 0)))]), (upd e0 0 (some (.cells 3 [(e_TJProg p_)]))), 1⟩
abbrev Z5w (p_ : TJProg) (F_ : Bool → Int → Option Int) (o : Int) (R_ : St → Prop) : Prop := ∀ (large : Bool) (v26 : Int), F_ large v26 = some o → ∀ s, Weak 0 s ⟨(ue [(26, (I v26)), (25, (I (p_.Funcs.length : Int))), (24, (.c (.ro false 4 (p_.Funcs.map e_TJFunc)))), (3, (B large)), (1, (.c (.ref 0 3 0 0)))]), (upd e0 0 (some (.cells 3 [(e_TJProg p_)]))), 1⟩ → R_ s
noncomputable def Zi (p_ : TJProg) (K0_ : Bool → Option Int) : Nat → Bool → Int → Option Int
 | 0, _, _ => none
 | k + 1, large, v26 =>
  if decide (v26 < (p_.Funcs.length : Int)) then
   (at? p_.Funcs v26).bind fun x_ =>
   (Zi p_ K0_ k) ((large || (decide (8000 < (x_.Code.length : Int)))) || (decide (400 < x_.Slots))) (wi (v26 + 1))
  else
   K0_ large
theorem Z5x {Q : AExit → St → Prop} {p_ : TJProg} {K0_ : Bool → Option Int} {k : Nat} {large : Bool} {v26 : Int} {o : Int} (h : Zi p_ K0_ k large v26 = some o)
  (hK0 : Z5v p_ K0_ o (Q (.exit 0)))
  (hr : ∀ s, Ends a5.results 0 (Z1x o) .ret s → Q .ret s) :
  Sv Tryd.prog GG 0 (.loop a5_c0) Q ⟨(ue [(26, (I v26)), (25, (I (p_.Funcs.length : Int))), (24, (.c (.ro false 4 (p_.Funcs.map e_TJFunc)))), (3, (B large)), (1, (.c (.ref 0 3 0 0)))]), (upd e0 0 (some (.cells 3 [(e_TJProg p_)]))), 1⟩ := by
 refine Sv.loop (I := Z3y p_ (Zi p_ K0_) o) (fun k s hI => ?_) ⟨large, v26, h, rfl⟩
 clear h
 clear v26 large
 obtain ⟨large, v26, h, rfl⟩ := hI
 cases k with
 | zero => cases h
 | succ k =>
 rw [Zi] at h
 have hself : Z5w p_ (Zi p_ K0_ k) o (rnd 0 (Z3y p_ (Zi p_ K0_) o) k Q) := fun large v26 h s hw => ⟨_, k, hw, Nat.lt_succ_self k, large, v26, h, rfl⟩
 refine ssr <| un1 (v := (B (decide (v26 < (p_.Funcs.length : Int))))) rfl <| dnil <| Sv.seq ?_
 refine Sv.cnd rfl h (fun h => ?_) fun h => ?_
 ·refine Sv.skip <| Sv.seq <| Sv.block <| ssr ?_
  obtain ⟨x_, hx1, h⟩ := bnd h
  refine un1 (v := (.c (.rop (e_TJFunc x_)))) (s_iaddr (e := e_TJFunc) (xs := p_.Funcs) rfl rfl hx1) <| un1 (v := (.agg (e_TJFunc x_))) rfl <| un <| a2v (v := (.c (.ref 1 4 0 0))) (h' := upd _ 1 (some (.cells 4 [[cI 0, cI 0, .ro true 1 [], .ro true 2 []]]))) (n' := 2) rfl rfl hcs <| un <| a2n (h' := upd _ 1 (some (.cells 4 [(e_TJFunc x_)]))) (n' := 2) rfl rfl hcs <| dnil <| srg <| un1 rfl <| un1 rfl ?_
  refine gjoin 5 (d := 36) (v := (B (large || (decide (8000 < (x_.Code.length : Int)))))) (fun X hX => ?_) ?_
  ·refine split2 (fun hc4 => ?_) (fun hc4 => ?_)
   ·refine gs rfl rfl <| gs rfl rfl <| gs rfl rfl <| gs rfl rfl <| un1 (v := (B true)) rfl <| dnil ?_
    exact hX _ (.putEq (by rw [hc4]; rfl) (.skp (.skp (.skp (.skp (.putEq (by rw [hc4]) (.refl _)) rfl) rfl) rfl) rfl))
   ·refine gt rfl <| a1 (v := (.c (.ref 1 4 0 3))) rfl <| gt rfl <| a1 (v := (.c (.ro false 2 (x_.Code.map e_TJIns)))) rfl <| gt rfl <| a1 (v := (I (x_.Code.length : Int))) (s_len (e := e_TJIns) (xs := x_.Code) rfl) <| gt rfl <| a1 (v := (B (decide (8000 < (x_.Code.length : Int))))) rfl <| un1 (v := (B (decide (8000 < (x_.Code.length : Int))))) rfl <| dnil ?_
    exact hX _ (.putEq (by rw [hc4]; rfl) (.skp (.skp (.skp (.skp (.putEq (by rw [hc4]) (.refl _)) rfl) rfl) rfl) rfl))
  refine un1 rfl ?_
  refine gjoin 4 (d := 41) (v := (B ((large || (decide (8000 < (x_.Code.length : Int)))) || (decide (400 < x_.Slots))))) (fun X hX => ?_) ?_
  ·refine split2 (fun hc5 => ?_) (fun hc5 => ?_)
   ·refine gs rfl rfl <| gs rfl rfl <| gs rfl rfl <| un1 (v := (B true)) rfl <| dnil ?_
    exact hX _ (.putEq (by rw [hc5]; rfl) (.skp (.skp (.skp (.putEq (by rw [hc5]) (.refl _)) rfl) rfl) rfl))
   ·refine gt rfl <| a1 (v := (.c (.ref 1 4 0 1))) rfl <| gt rfl <| a1 (v := (I x_.Slots)) rfl <| gt rfl <| a1 (v := (B (decide (400 < x_.Slots)))) rfl <| un1 (v := (B (decide (400 < x_.Slots)))) rfl <| dnil ?_
    exact hX _ (.putEq (by rw [hc5]; rfl) (.skp (.skp (.skp (.putEq (by rw [hc5]) (.refl _)) rfl) rfl) rfl))
  refine un1 rfl <| dnil <| srg <| un1 (v := (I (wi (v26 + 1)))) rfl <| un1 rfl <| dnil ?_
  exact hself ((large || (decide (8000 < (x_.Code.length : Int)))) || (decide (400 < x_.Slots))) (wi (v26 + 1)) h _ (wcn [0] rfl (.cf rfl rfl (.cf rfl rfl (.cf rfl rfl (.cf rfl rfl (.cr rfl rfl rfl .nil))))) (.box (by decide) rfl (blkAs_cells (.sm rfl (.sm rfl (.sm rfl .nil)))) .nil))
 ·refine Sv.exit ?_
  exact hK0 large h _ (wcn [0] rfl (.cf rfl rfl (.cr rfl rfl rfl .nil)) (.box (by decide) rfl (blkAs_cells (.sm rfl (.sm rfl (.sm rfl .nil)))) .nil))
abbrev Z5y (F_ : Unit → Option Int) (o : Int) (R_ : St → Prop) : Prop := ∀ (_ : Unit), F_ () = some o → ∀ s, Weak 0 s ⟨e0, e0, 0⟩ → R_ s
abbrev Z3z (p_ : TJProg) (F_ : Nat → Int → Option Int) (o : Int) : Nat → St → Prop := fun k s => ∃ (v61 : Int), F_ k v61 = some o ∧ s = ⟨(ue [(61, (I v61)), (60, (I (p_.Funcs.length : Int))), (1, (.c (.ref 0 3 0 0)))]), (upd e0 0 (some (.cells 3 [(e_TJProg p_)]))), 1⟩
abbrev Z5z (p_ : TJProg) (F_ : Int → Option Int) (o : Int) (R_ : St → Prop) : Prop := ∀ (v61 : Int), F_ v61 = some o → ∀ s, Weak 0 s ⟨(ue [(61, (I v61)), (60, (I (p_.Funcs.length : Int))), (1, (.c (.ref 0 3 0 0)))]), (upd e0 0 (some (.cells 3 [(e_TJProg p_)]))), 1⟩ → R_ s
noncomputable def Zd (p_ : TJProg) (K3_ : Unit → Option Int) : Nat → Int → Option Int
 | 0, _ => none
 | k + 1, v61 =>
  if decide (v61 < (p_.Funcs.length : Int)) then
   (Z1w p_ v61).bind fun r_ =>
   if (!r_) then
    some 3
   else
    (Zd p_ K3_ k) (wi (v61 + 1))
  else
   K3_ ()
theorem Z60 {Q : AExit → St → Prop} {p_ : TJProg} {K3_ : Unit → Option Int} {k : Nat} {v61 : Int} {o : Int} (h : Zd p_ K3_ k v61 = some o)
  (hK3 : Z5y K3_ o (Q (.exit 3)))
  (hr : ∀ s, Ends a5.results 0 (Z1x o) .ret s → Q .ret s) :
  Sv Tryd.prog GG 0 (.loop a5_c2) Q ⟨(ue [(61, (I v61)), (60, (I (p_.Funcs.length : Int))), (1, (.c (.ref 0 3 0 0)))]), (upd e0 0 (some (.cells 3 [(e_TJProg p_)]))), 1⟩ := by
 refine Sv.loop (I := Z3z p_ (Zd p_ K3_) o) (fun k s hI => ?_) ⟨v61, h, rfl⟩
 clear h
 clear v61
 obtain ⟨v61, h, rfl⟩ := hI
 cases k with
 | zero => cases h
 | succ k =>
 rw [Zd] at h
 have hself : Z5z p_ (Zd p_ K3_ k) o (rnd 0 (Z3z p_ (Zd p_ K3_) o) k Q) := fun v61 h s hw => ⟨_, k, hw, Nat.lt_succ_self k, v61, h, rfl⟩
 refine ssr <| un1 (v := (B (decide (v61 < (p_.Funcs.length : Int))))) rfl <| dnil <| Sv.seq ?_
 refine Sv.cnd rfl h (fun h => ?_) fun h => ?_
 ·refine Sv.skip <| Sv.seq <| Sv.block <| ssr <| un1 rfl <| un1 rfl <| dnil <| ssr <| un1 (v := (.agg (e_TJProg p_))) rfl <| un1 rfl ?_
  obtain ⟨r_, hr1, h⟩ := bnd h
  refine un <| ac_pure (Z5u hr1) rfl rfl rfl <| un1 (v := (B (!r_))) rfl <| dnil ?_
  refine Sv.cnd rfl h (fun h => ?_) fun h => ?_
  ·refine ssr <| un1 rfl <| dnil <| Sv.ret ?_
   exact hr _ (rt0 h rfl rfl ⟨rfl, rfl, rfl⟩)
  ·refine Sv.skip <| srg <| un1 (v := (I (wi (v61 + 1)))) rfl <| un1 rfl <| dnil ?_
   exact hself (wi (v61 + 1)) h _ (wcn [0] rfl (.cf rfl rfl (.cf rfl rfl (.cr rfl rfl rfl .nil))) (.box (by decide) rfl (blkAs_cells (.sm rfl (.sm rfl (.sm rfl .nil)))) .nil))
 ·refine Sv.exit ?_
  exact hK3 () h _ (wcn [] rfl .nil .nil)
abbrev Z61 (o : Int) : AExit → St → Prop := AThen (Sv Tryd.prog GG 0 a5_c3 (Ends a5.results 0 (Z1x o))) (Ends a5.results 0 (Z1x o))
abbrev Z62 (o : Int) : AExit → St → Prop := ABlock 2 (Z61 o)
noncomputable def Zp (p_ : TJProg) (v45 : Bool) : Option Int :=
 if v45 then
  some 3
 else
  lim fun kk => Zd p_ (fun (_ : Unit) => 
    some 0) kk 0
theorem Z40 {p_ : TJProg} {v45 : Bool} {o : Int} (h : Zp p_ v45 = some o) :
  Sv Tryd.prog GG 0 a5_c1 (Z62 o) ⟨(ue [(45, (B v45)), (1, (.c (.ref 0 3 0 0)))]), (upd e0 0 (some (.cells 3 [(e_TJProg p_)]))), 1⟩ := by
 unfold Zp at h
 refine Sv.cnd rfl h (fun h => ?_) fun h => ?_
 ·refine ssr <| un1 rfl <| dnil <| Sv.ret ?_
  exact rt0 h rfl rfl ⟨rfl, rfl, rfl⟩
 ·refine Sv.skip <| Sv.seq <| ssr <| un1 (v := (.c (.ref 0 3 0 0))) rfl <| un1 (v := (.c (.ro false 4 (p_.Funcs.map e_TJFunc)))) rfl <| un1 (v := (I (p_.Funcs.length : Int))) (s_len (e := e_TJFunc) (xs := p_.Funcs) rfl) <| un1 rfl <| dnil <| Sv.block ?_
  obtain ⟨kk, h⟩ := lim_some h
  refine Sv.weak (wcn [0] rfl (.cf rfl rfl (.cf rfl rfl (.cr rfl rfl rfl .nil))) (.box (by decide) rfl (blkAs_cells (.sm rfl (.sm rfl (.sm rfl .nil)))) .nil)) (Z60 h ?_ (fun s hs => hs))
  ·intro _ h _ hw2
   refine Sv.weak hw2 <| ssr <| un1 rfl <| dnil <| Sv.ret ?_
   exact rt0 h rfl rfl ⟨rfl, rfl, rfl⟩
/-- clerestory/clerestoryref4.ProgRight -/
noncomputable def Z1y (p_ : TJProg) : Option Int :=
 lim fun kk1 => Zi p_ (fun (large1 : Bool) => 
   if large1 then
    some 2
   else
    if decide ((p_.Funcs.length : Int) = 0) then
     Zp p_ true
    else
     (at? p_.Funcs 0).bind fun x_1 =>
     Zp p_ (!decide (x_1.Params = 0))) kk1 (((decide (400 < (p_.Funcs.length : Int))) || (decide (400 < (p_.Consts.length : Int)))) || (decide (400 < (p_.Shapes.length : Int)))) 0
theorem Z63 {p_ : TJProg} {r : Int} (h : Z1y p_ = some r) : CPure Tryd.prog GG 5 [(.agg (e_TJProg p_))] (I r) := by
 refine acalls_of_sv hmix c5 (R := Z1x r) ?_
 unfold Z1y at h
 refine ssr <| un <| a2v (v := (.c (.ref 0 3 0 0))) (h' := upd _ 0 (some (.cells 3 [(e_TJProg p_)]))) (n' := 1) rfl rfl hcs <| un1 rfl <| dnil <| ssr <| un1 (v := (.c (.ref 0 3 0 0))) rfl <| un1 (v := (.c (.ro false 4 (p_.Funcs.map e_TJFunc)))) rfl <| un1 (v := (I (p_.Funcs.length : Int))) (s_len (e := e_TJFunc) (xs := p_.Funcs) rfl) <| un1 (v := (B (decide (400 < (p_.Funcs.length : Int))))) rfl <| un1 rfl ?_
 refine gjoin 5 (d := 16) (v := (B ((decide (400 < (p_.Funcs.length : Int))) || (decide (400 < (p_.Consts.length : Int)))))) (fun X hX => ?_) ?_
 ·refine split2 (fun hc1 => ?_) (fun hc1 => ?_)
  ·refine gs rfl rfl <| gs rfl rfl <| gs rfl rfl <| gs rfl rfl <| un1 (v := (B true)) rfl <| dnil ?_
   exact hX _ (.putEq (by rw [hc1]; rfl) (.skp (.skp (.skp (.skp (.putEq (by rw [hc1]) (.refl _)) rfl) rfl) rfl) rfl))
  ·refine gt rfl <| a1 (v := (.c (.ref 0 3 0 1))) rfl <| gt rfl <| a1 (v := (.c (.ro false 3 (p_.Consts.map e_TJVal)))) rfl <| gt rfl <| a1 (v := (I (p_.Consts.length : Int))) (s_len (e := e_TJVal) (xs := p_.Consts) rfl) <| gt rfl <| a1 (v := (B (decide (400 < (p_.Consts.length : Int))))) rfl <| un1 (v := (B (decide (400 < (p_.Consts.length : Int))))) rfl <| dnil ?_
   exact hX _ (.putEq (by rw [hc1]; rfl) (.skp (.skp (.skp (.skp (.putEq (by rw [hc1]) (.refl _)) rfl) rfl) rfl) rfl))
 refine un1 rfl ?_
 refine gjoin 5 (d := 22) (v := (B (((decide (400 < (p_.Funcs.length : Int))) || (decide (400 < (p_.Consts.length : Int)))) || (decide (400 < (p_.Shapes.length : Int)))))) (fun X hX => ?_) ?_
 ·refine split2 (fun hc2 => ?_) (fun hc2 => ?_)
  ·refine gs rfl rfl <| gs rfl rfl <| gs rfl rfl <| gs rfl rfl <| un1 (v := (B true)) rfl <| dnil ?_
   exact hX _ (.putEq (by rw [hc2]; rfl) (.skp (.skp (.skp (.skp (.putEq (by rw [hc2]) (.refl _)) rfl) rfl) rfl) rfl))
  ·refine gt rfl <| a1 (v := (.c (.ref 0 3 0 2))) rfl <| gt rfl <| a1 (v := (.c (.ro false 1 (p_.Shapes.map (eSl 1 eStr))))) rfl <| gt rfl <| a1 (v := (I (p_.Shapes.length : Int))) (s_len (e := (eSl 1 eStr)) (xs := p_.Shapes) rfl) <| gt rfl <| a1 (v := (B (decide (400 < (p_.Shapes.length : Int))))) rfl <| un1 (v := (B (decide (400 < (p_.Shapes.length : Int))))) rfl <| dnil ?_
   exact hX _ (.putEq (by rw [hc2]; rfl) (.skp (.skp (.skp (.skp (.putEq (by rw [hc2]) (.refl _)) rfl) rfl) rfl) rfl))
 refine un1 rfl <| dnil <| Sv.seq <| ssr <| un1 (v := (.c (.ref 0 3 0 0))) rfl <| un1 (v := (.c (.ro false 4 (p_.Funcs.map e_TJFunc)))) rfl <| un1 (v := (I (p_.Funcs.length : Int))) (s_len (e := e_TJFunc) (xs := p_.Funcs) rfl) <| un1 rfl <| dnil <| Sv.block ?_
 obtain ⟨kk1, h⟩ := lim_some h
 refine Sv.weak (wcn [0] rfl (.cf rfl rfl (.cf rfl rfl (.cf rfl rfl (.cf rfl rfl (.cr rfl rfl rfl .nil))))) (.box (by decide) rfl (blkAs_cells (.sm rfl (.sm rfl (.sm rfl .nil)))) .nil)) (Z5x h ?_ (fun s hs => hs))
 ·intro large1 h _ hw1
  refine Sv.weak hw1 <| Sv.seq <| Sv.block <| ssr <| un1 rfl <| un1 rfl <| dnil ?_
  refine Sv.cnd rfl h (fun h => ?_) fun h => ?_
  ·refine ssr <| un1 rfl <| dnil <| Sv.ret ?_
   exact rt0 h rfl rfl ⟨rfl, rfl, rfl⟩
  ·refine ssr <| un1 (v := (.c (.ref 0 3 0 0))) rfl <| un1 (v := (.c (.ro false 4 (p_.Funcs.map e_TJFunc)))) rfl <| un1 (v := (I (p_.Funcs.length : Int))) (s_len (e := e_TJFunc) (xs := p_.Funcs) rfl) <| un1 (v := (B (decide ((p_.Funcs.length : Int) = 0)))) rfl <| un1 rfl ?_
   refine spl h (fun h => ?_) fun h => ?_
   ·repeat (first | refine gu rfl ?_ | refine gs rfl rfl ?_)
    refine un1 (v := (B true)) rfl <| un1 rfl <| dnil ?_
    exact Sv.weak (wcn [0] rfl (.cf rfl rfl (.cr rfl rfl rfl .nil)) (.box (by decide) rfl (blkAs_cells (.sm rfl (.sm rfl (.sm rfl .nil)))) .nil)) (Z40 h)
   ·refine gt rfl <| a1 (v := (.c (.ref 0 3 0 0))) rfl <| gt rfl <| a1 (v := (.c (.ro false 4 (p_.Funcs.map e_TJFunc)))) rfl ?_
    obtain ⟨x_1, hx2, h⟩ := bnd h
    refine gt rfl <| a1 (v := (.c (.rop (e_TJFunc x_1)))) (s_iaddr (e := e_TJFunc) (xs := p_.Funcs) rfl rfl hx2) <| gt rfl <| a1 (v := (.c (.rop (e_TJFunc x_1)))) rfl <| gt rfl <| a1 (v := (I x_1.Params)) rfl <| gt rfl <| a1 (v := (B (!decide (x_1.Params = 0)))) rfl <| un1 (v := (B (!decide (x_1.Params = 0)))) rfl <| un1 rfl <| dnil ?_
    exact Sv.weak (wcn [0] rfl (.cf rfl rfl (.cr rfl rfl rfl .nil)) (.box (by decide) rfl (blkAs_cells (.sm rfl (.sm rfl (.sm rfl .nil)))) .nil)) (Z40 h)
def a3_c0 : ACode := .ret
def a3 : AFunc := ⟨1, [(.tmp 2)], (sr [(oP 1 (.box (.tmp 0))), (oP 2 (.mov kF))]
 (.seq (.drawn (.fin [((oP 3 (.build [(.ro true 4 []), (.ro true 3 []), (.ro true 1 [])] [])), (0, 0)), ((oP 4 (.call 4 [(.tmp 3)])), (1, 1)), ((oP 5 (.bin .eql (.tmp 4) (kI 3))), (0, 2)), ((mV 6 5), (0, 3)), (⟨(some 7), (.load true 3 (.tmp 1)), (some (6, true))⟩, (0, 4)), (⟨(some 9), (.load true 3 (.tmp 1)), (some (6, true))⟩, (0, 6)), (⟨(some 8), (.call 4 [(.tmp 7)]), (some (6, true))⟩, (1, 5)), (⟨(some 10), (.call 5 [(.tmp 9)]), (some (6, true))⟩, (2, 7)), (⟨(some 11), (.bin .eql (.tmp 8) (.tmp 10)), (some (6, true))⟩, (0, 8)), ((oP 12 (.pick (.tmp 6) (.tmp 11) kF)), (0, 9)), ((mV 2 12), (0, 10))]))
 a3_c0))⟩
theorem c3 : compFunc Tryd.prog 3 = some a3 := by kernel_rfl
def Z41 (r : Bool) : AV → Heap → Nat → Prop := fun v h' n' => v = (B r) ∧ (h' = e0) ∧ n' = 0
noncomputable def Z1z (v2 : Bool) : Option Bool :=
 some v2
theorem Z42 {v2 : Bool} {o : Bool} (h : Z1z v2 = some o) :
  Sv Tryd.prog GG 0 a3_c0 (Ends a3.results 0 (Z41 o)) ⟨(upd e0 2 (some (B v2))), e0, 0⟩ := by
 unfold Z1z at h
 refine Sv.ret ?_
 exact rt0 h rfl rfl ⟨rfl, rfl, rfl⟩
/-- clerestory/clerestorylaw4.CodeChecks -/
noncomputable def Z2a (p_ : TJProg) : Option Bool :=
 (Zx (⟨[], [], []⟩ : TJProg)).bind fun r_ =>
 if decide (r_ = 3) then
  (Zx p_).bind fun r_1 =>
  (Z1y p_).bind fun r_2 =>
  Z1z (decide (r_1 = r_2))
 else
  Z1z false
theorem Z64 {p_ : TJProg} {r : Bool} (h : Z2a p_ = some r) : CPure Tryd.prog GG 3 [(.agg (e_TJProg p_))] (B r) := by
 refine acalls_of_sv hmix c3 (R := Z41 r) ?_
 unfold Z2a at h
 refine ssr <| un <| a2v (v := (.c (.ref 0 3 0 0))) (h' := upd _ 0 (some (.cells 3 [(e_TJProg p_)]))) (n' := 1) rfl rfl hcs <| un1 rfl <| dnil <| Sv.seq <| Sv.drawn <| un1 (v := (.agg [.ro true 4 [], .ro true 3 [], .ro true 1 []])) rfl ?_
 obtain ⟨r_, hr1, h⟩ := bnd h
 refine un <| ac_lend (h2 := _) (Z3i hr1) rfl (.cons (avAs_agg (.cons .nil (.cons .nil (.cons .nil .nil)))) .nil) (hsub_refl _) rfl rfl (.inl rfl) <| un1 (v := (B (decide (r_ = 3)))) rfl <| un1 rfl ?_
 refine spl h (fun h => ?_) fun h => ?_
 ·refine gt rfl <| a1 (v := (.agg (e_TJProg p_))) rfl <| gt rfl <| a1 (v := (.agg (e_TJProg p_))) rfl ?_
  obtain ⟨r_1, hr2, h⟩ := bnd h
  refine gt rfl <| ac_pure (Z3i hr2) rfl rfl rfl ?_
  obtain ⟨r_2, hr3, h⟩ := bnd h
  refine gt rfl <| ac_pure (Z63 hr3) rfl rfl rfl <| gt rfl <| a1 (v := (B (decide (r_1 = r_2)))) rfl <| un1 (v := (B (decide (r_1 = r_2)))) rfl <| un1 rfl <| dnil ?_
  exact Sv.weak (wcn [] rfl (.cf rfl rfl .nil) .nil) (Z42 h)
 ·repeat (first | refine gu rfl ?_ | refine gs rfl rfl ?_)
  refine un1 (v := (B false)) rfl <| un1 rfl <| dnil ?_
  exact Sv.weak (wcn [] rfl (.cf rfl rfl .nil) .nil) (Z42 h)
end Go.Proofs.YtolmbcngghkfiaaDoorBv
