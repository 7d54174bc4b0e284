/- Printed by a program of mine (bgen.py): plain functions, and the walks that show that the code comes to what they answer. -/
import Derived.Test.YtagfmlkihindaaaGHeapAlike1
namespace Go.Proofs.YtagfmlkihindaaaBv
open Go
set_option linter.unusedVariables false
set_option maxRecDepth 100000
def a4_c3 : ACode := .ret
def a4_c2 : ACode := (.seq (.seq (.region [⟨(some 42), (.mov (.tmp 11)), none⟩, ⟨(some 43), (.bin .neq (.tmp 42) (.const (.c (.val (.int .i64 0))))), none⟩])
 (.cond (.tmp 43) (.seq (.region [⟨(some 44), (.mov (.tmp 9)), none⟩, ⟨(some 45), (.un .not (.tmp 44)), none⟩, ⟨(some 46), (.mov (.tmp 45)), none⟩, ⟨(some 47), (.mov (.tmp 10)), (some (46, true))⟩, ⟨(some 48), (.mov (.tmp 11)), (some (46, true))⟩, ⟨(some 49), (.bin .eql (.tmp 47) (.tmp 48)), (some (46, true))⟩, ⟨(some 50), (.pick (.tmp 46) (.tmp 49) (.const (.c (.val (.bool false))))), none⟩, ⟨(some 8), (.mov (.tmp 50)), none⟩])
 .ret) .skip))
 (.seq (.region [⟨(some 52), (.mov (.tmp 0)), none⟩, ⟨(some 53), (.load true 3 (.tmp 5)), none⟩, ⟨(some 54), (.bslice 3 [(.val (.int .i64 0)), (.val (.int .i64 0)), (.str [])] 1 [(0, (.tmp 53))]), none⟩, ⟨(some 55), (.call 13 [(.tmp 52), (.tmp 54)]), none⟩, ⟨(some 51), (.mov (.tmp 55)), none⟩, ⟨(some 56), (.ext (.tmp 51) 0), none⟩, ⟨(some 57), (.ext (.tmp 51) 1), none⟩, ⟨(some 12), (.mov (.tmp 56)), none⟩, ⟨(some 13), (.mov (.tmp 57)), none⟩])
 (.seq (.region [⟨(some 59), (.mov (.tmp 2)), none⟩, ⟨(some 60), (.load true 3 (.tmp 7)), none⟩, ⟨(some 61), (.bslice 3 [(.val (.int .i64 0)), (.val (.int .i64 0)), (.str [])] 1 [(0, (.tmp 60))]), none⟩, ⟨(some 62), (.call 13 [(.tmp 59), (.tmp 61)]), none⟩, ⟨(some 58), (.mov (.tmp 62)), none⟩, ⟨(some 63), (.ext (.tmp 58) 0), none⟩, ⟨(some 64), (.ext (.tmp 58) 1), none⟩, ⟨(some 14), (.mov (.tmp 63)), none⟩, ⟨(some 15), (.mov (.tmp 64)), none⟩])
 (.seq (.drawn (.fin [(⟨(some 65), (.mov (.tmp 9)), none⟩, (0, 0)), (⟨(some 66), (.mov (.tmp 12)), none⟩, (0, 1)), (⟨(some 67), (.mov (.tmp 14)), none⟩, (0, 2)), (⟨(some 68), (.call 14 [(.tmp 66), (.tmp 67)]), none⟩, (1, 3)), (⟨(some 69), (.mov (.tmp 68)), none⟩, (0, 4)), (⟨(some 70), (.mov (.tmp 13)), (some (69, true))⟩, (0, 5)), (⟨(some 71), (.iaddr 3 (.tmp 70) (.const (.c (.val (.int .i64 0))))), (some (69, true))⟩, (0, 6)), (⟨(some 72), (.load true 3 (.tmp 71)), (some (69, true))⟩, (0, 7)), (⟨(some 73), (.mov (.tmp 15)), (some (69, true))⟩, (0, 8)), (⟨(some 74), (.iaddr 3 (.tmp 73) (.const (.c (.val (.int .i64 0))))), (some (69, true))⟩, (0, 9)), (⟨(some 75), (.load true 3 (.tmp 74)), (some (69, true))⟩, (0, 10)), (⟨(some 76), (.eqs false true [.i, .i, .s] (.tmp 72) (.tmp 75)), (some (69, true))⟩, (0, 11)), (⟨(some 77), (.pick (.tmp 69) (.tmp 76) (.const (.c (.val (.bool false))))), none⟩, (0, 12)), (⟨(some 78), (.eqs false false [.b] (.tmp 65) (.tmp 77)), none⟩, (0, 13)), (⟨(some 79), (.mov (.tmp 78)), none⟩, (0, 14)), (⟨(some 80), (.mov (.tmp 10)), (some (79, true))⟩, (0, 15)), (⟨(some 81), (.bin .eql (.tmp 80) (.const (.c (.val (.int .i64 0))))), (some (79, true))⟩, (0, 16)), (⟨(some 82), (.pick (.tmp 79) (.tmp 81) (.const (.c (.val (.bool false))))), none⟩, (0, 17)), (⟨(some 8), (.mov (.tmp 82)), none⟩, (0, 18))]))
 a4_c3))))
def a4_c1 : ACode := (.seq (.seq (.region [⟨(some 36), (.mov (.tmp 11)), none⟩, ⟨(some 37), (.bin .eql (.tmp 36) (.const (.c (.val (.int .i64 0))))), none⟩])
 (.cond (.tmp 37) (.region [⟨(some 38), (.mov (.tmp 2)), none⟩, ⟨(some 39), (.load true 3 (.tmp 7)), none⟩, ⟨(some 40), (.bslice 3 [(.val (.int .i64 0)), (.val (.int .i64 0)), (.str [])] 1 [(0, (.tmp 39))]), none⟩, ⟨(some 41), (.call 12 [(.tmp 38), (.tmp 40)]), none⟩, ⟨(some 11), (.mov (.tmp 41)), none⟩]) .skip))
 a4_c2)
def a4_c0 : ACode := (.seq (.seq (.region [⟨(some 30), (.mov (.tmp 11)), none⟩, ⟨(some 31), (.bin .eql (.tmp 30) (.const (.c (.val (.int .i64 0))))), none⟩])
 (.cond (.tmp 31) (.region [⟨(some 32), (.mov (.tmp 0)), none⟩, ⟨(some 33), (.load true 3 (.tmp 5)), none⟩, ⟨(some 34), (.bslice 3 [(.val (.int .i64 0)), (.val (.int .i64 0)), (.str [])] 1 [(0, (.tmp 33))]), none⟩, ⟨(some 35), (.call 12 [(.tmp 32), (.tmp 34)]), none⟩, ⟨(some 11), (.mov (.tmp 35)), none⟩]) .skip))
 a4_c1)
def a4 : AFunc := ⟨4, [(.tmp 8)], (.seq (.region [⟨(some 5), (.box (.tmp 1)), none⟩, ⟨(some 7), (.box (.tmp 3)), none⟩, ⟨(some 8), (.mov (.const (.c (.val (.bool false))))), none⟩])
 (.seq (.region [⟨(some 17), (.mov (.tmp 0)), none⟩, ⟨(some 18), (.load true 3 (.tmp 5)), none⟩, ⟨(some 19), (.mov (.tmp 2)), none⟩, ⟨(some 20), (.load true 3 (.tmp 7)), none⟩, ⟨(some 21), (.call 11 [(.tmp 17), (.tmp 18), (.tmp 19), (.tmp 20)]), none⟩, ⟨(some 16), (.mov (.tmp 21)), none⟩, ⟨(some 22), (.ext (.tmp 16) 0), none⟩, ⟨(some 23), (.ext (.tmp 16) 1), none⟩, ⟨(some 9), (.mov (.tmp 22)), none⟩, ⟨(some 10), (.mov (.tmp 23)), none⟩])
 (.seq (.region [⟨(some 24), (.mov (.tmp 0)), none⟩, ⟨(some 25), (.call 12 [(.tmp 24), (.const (.c (.ro true 3 [])))]), none⟩, ⟨(some 11), (.mov (.tmp 25)), none⟩])
 (.seq (.seq (.region [⟨(some 26), (.mov (.tmp 11)), none⟩, ⟨(some 27), (.bin .eql (.tmp 26) (.const (.c (.val (.int .i64 0))))), none⟩])
 (.cond (.tmp 27) (.region [⟨(some 28), (.mov (.tmp 2)), none⟩, ⟨(some 29), (.call 12 [(.tmp 28), (.const (.c (.ro true 3 [])))]), none⟩, ⟨(some 11), (.mov (.tmp 29)), none⟩]) .skip))
 a4_c0))))⟩
set_option maxRecDepth 100000 in
theorem c4 : compFunc Try.prog 4 = some a4 := by kernel_rfl
def clerestorylaw4_HeapAlike_post (r : Bool) : AV → Heap → Nat → Prop := fun v h' n' => v = (B r) ∧ (h' = (fun _ => none)) ∧ n' = 0
noncomputable def clerestorylaw4_HeapAlike_j4 (v8 : Bool) : Option Bool :=
  some v8
theorem clerestorylaw4_HeapAlike_j4_ok {Γ : Glob} {v8 : Bool} {o : Bool} (h : clerestorylaw4_HeapAlike_j4 v8 = some o) :
    Sv Try.prog Γ 0 a4_c3 (Ends a4.results 0 (clerestorylaw4_HeapAlike_post o)) ⟨(upd (fun _ => none) 8 (some (B v8))), (fun _ => none), 0⟩ := by
  unfold clerestorylaw4_HeapAlike_j4 at h
  refine Sv.ret ?_
  replace h := Option.some.inj h
  subst h
  exact ⟨_, .refl _, _, rfl, ⟨upd (fun _ => none) 0 (some (B v8)), (fun _ => none), 0⟩, (B v8), weak_canon [] rfl List.nodup_nil (Nat.le_refl _) (fun b h => absurd h (Nat.not_lt_zero _)) (.cons rfl (avAs_free rfl) .nil) .nil, rfl, rfl, rfl, rfl⟩
noncomputable def clerestorylaw4_HeapAlike_j3 (r_ : (Bool × Int)) (g_ : (List TJCell)) (a_ : TJVal) (h_ : (List TJCell)) (b_ : TJVal) (say2 : Int) : Option Bool :=
  if (!decide (say2 = 0)) then
    some ((!r_.1) && (decide (r_.2 = say2)))
  else
    (clerestoryref4_MovedCells g_ [a_]).bind fun r_3 =>
    (clerestoryref4_MovedCells h_ [b_]).bind fun r_5 =>
    (clerestoryref4_SameCells r_3.1 r_5.1).bind fun r_6 =>
    if r_6 then
      (at? r_3.2 0).bind fun x_ =>
      (at? r_5.2 0).bind fun x_1 =>
      letIn (decide (x_.Kind = x_1.Kind) && (decide (x_.N = x_1.N) && (decide (x_.S = x_1.S) && true))) fun v76 : Bool =>
      clerestorylaw4_HeapAlike_j4 (((r_.1 == v76) && true) && (decide (r_.2 = 0)))
    else
      clerestorylaw4_HeapAlike_j4 (((r_.1 == false) && true) && (decide (r_.2 = 0)))
theorem clerestorylaw4_HeapAlike_j3_ok {Γ : Glob} {r_ : (Bool × Int)} {g_ : (List TJCell)} {a_ : TJVal} {h_ : (List TJCell)} {b_ : TJVal} {say2 : Int} {o : Bool} (h : clerestorylaw4_HeapAlike_j3 r_ g_ a_ h_ b_ say2 = some o) :
    Sv Try.prog Γ 0 a4_c2 (Ends a4.results 0 (clerestorylaw4_HeapAlike_post o)) ⟨(upd (upd (upd (upd (upd (upd (upd (fun _ => none) 0 (some (.c (.ro false 3 (g_.map e_TJCell))))) 2 (some (.c (.ro false 3 (h_.map e_TJCell))))) 5 (some (.c (.ref 0 3 0 0)))) 7 (some (.c (.ref 1 3 0 0)))) 9 (some (B r_.1))) 10 (some (I r_.2))) 11 (some (I say2))), (upd (upd (fun _ => none) 0 (some (.cells 3 [[cI a_.Kind, cI a_.N, .str a_.S]]))) 1 (some (.cells 3 [[cI b_.Kind, cI b_.N, .str b_.S]]))), 2⟩ := by
  unfold clerestorylaw4_HeapAlike_j3 at h
  refine Sv.seq ?_
  refine Sv.seq ?_
  refine Sv.region ?_
  refine un (a1 rfl ?_)
  refine un (a1 (v := (B (!decide (say2 = 0)))) rfl ?_)
  refine dnil ?_
  refine Sv.cond (b := (!decide (say2 = 0))) rfl (fun hc1 => ?_) (fun hc1 => ?_)
  · replace h := ifT hc1 h
    refine Sv.seq ?_
    refine Sv.region ?_
    refine un (a1 rfl ?_)
    refine un (a1 (v := (B (!r_.1))) rfl ?_)
    refine un (a1 rfl ?_)
    refine gjoin 4 (d := 50) (v := (B ((!r_.1) && (decide (r_.2 = say2))))) (fun X hX => ?_) ?_
    · refine split2 (fun hc2 => ?_) (fun hc2 => ?_)
      · refine gt rfl (a1 rfl ?_)
        refine gt rfl (a1 rfl ?_)
        refine gt rfl (a1 (v := (B (decide (r_.2 = say2)))) rfl ?_)
        refine un (a1 (v := (B (decide (r_.2 = say2)))) rfl ?_)
        refine dnil ?_
        exact hX _ (.putEq (by rw [hc2]; rfl) (.skip _ _ (.skip _ _ (.skip _ _ (.putEq (by rw [hc2]) (.refl _)) rfl) rfl) rfl))
      · refine gs rfl rfl ?_
        refine gs rfl rfl ?_
        refine gs rfl rfl ?_
        refine un (a1 (v := (B false)) rfl ?_)
        refine dnil ?_
        exact hX _ (.putEq (by rw [hc2]; rfl) (.skip _ _ (.skip _ _ (.skip _ _ (.putEq (by rw [hc2]) (.refl _)) rfl) rfl) rfl))
    refine un (a1 rfl ?_)
    refine dnil ?_
    refine Sv.ret ?_
    replace h := Option.some.inj h
    subst h
    exact ⟨_, .refl _, _, rfl, ⟨upd (fun _ => none) 0 (some (B ((!r_.1) && (decide (r_.2 = say2))))), (fun _ => none), 0⟩, (B ((!r_.1) && (decide (r_.2 = say2)))), weak_canon [] rfl List.nodup_nil (Nat.le_refl _) (fun b h => absurd h (Nat.not_lt_zero _)) (.cons rfl (avAs_free rfl) .nil) .nil, rfl, rfl, rfl, rfl⟩
  · replace h := ifF hc1 h
    refine Sv.skip ?_
    refine Sv.seq ?_
    refine Sv.region ?_
    refine un (a1 rfl ?_)
    refine un (a1 (v := (.agg [cI a_.Kind, cI a_.N, .str a_.S])) rfl ?_)
    refine un (a2v (v := (lstV false 2 3 [a_].length)) (h' := upd _ 2 (lstB false 3 ([a_].map e_TJVal))) (n' := 3) rfl rfl (fun h => by cases h) ?_)
    refine dweak (show Weak 0 _ ⟨(upd (upd (upd (upd (upd (upd (upd (upd (upd (upd (upd (upd (fun _ => none) 0 (some (.c (.ro false 3 (g_.map e_TJCell))))) 2 (some (.c (.ro false 3 (h_.map e_TJCell))))) 5 (some (.c (.ref 0 3 0 0)))) 7 (some (.c (.ref 1 3 0 0)))) 9 (some (B r_.1))) 10 (some (I r_.2))) 11 (some (I say2))) 42 (some (I say2))) 43 (some (B (!decide (say2 = 0))))) 52 (some (.c (.ro false 3 (g_.map e_TJCell))))) 53 (some (.agg [cI a_.Kind, cI a_.N, .str a_.S]))) 54 (some (.c (.ro false 3 ([a_].map e_TJVal))))), (upd (upd (fun _ => none) 0 (some (.cells 3 [[cI a_.Kind, cI a_.N, .str a_.S]]))) 1 (some (.cells 3 [[cI b_.Kind, cI b_.N, .str b_.S]]))), 3⟩ from (weak_canon [0, 1, 1002] rfl (by decide) (by decide) (fun b h => absurd h (Nat.not_lt_zero _)) (.cons rfl (.c (lstC_ro (es := List.map e_TJVal [a_]) rfl (List.length_map e_TJVal).symm (map_nil_of (fun h => by cases h)) (fun b x hx => not_in (bs := [0, 1, 1002]) rfl b (((.cons (by decide) (.cons (by decide) .nil)) : HLt _ _) b x hx)) (fr_map fun _ => rfl))) (.cons rfl (avAs_free rfl) (.cons rfl (avAs_free rfl) (.cons rfl (avAs_free rfl) (.cons rfl (avAs_free rfl) (.cons rfl (avAs_free rfl) (.cons rfl (avAs_free rfl) (.cons rfl (avAs_free rfl) (.cons rfl (.c (.ref rfl (by decide))) (.cons rfl (.c (.ref rfl (by decide))) (.cons rfl (avAs_free rfl) (.cons rfl (avAs_free rfl) .nil)))))))))))) (.box (by decide) rfl (blkAs_cells (.cons (.same rfl) (.cons (.same rfl) (.cons (.same rfl) .nil)))) (.box (by decide) rfl (blkAs_cells (.cons (.same rfl) (.cons (.same rfl) (.cons (.same rfl) .nil)))) .nil)))) ?_
    obtain ⟨r_3, hr4, h⟩ := bnd h
    refine un (ac_gen (bs := []) («as» := [(.c (.ro false 3 (g_.map e_TJCell))), (.c (.ro false 3 ([a_].map e_TJVal)))]) (h2 := _) (h1 := (fun _ => none)) (clerestoryref4_MovedCells_ok hr4) rfl (.cons (avAs_free rfl) (.cons (avAs_free rfl) .nil)) (hsub_refl _) (.nil _) (fun _ => rfl) (by decide) (by decide) (.cons (avAs_free rfl) (.cons (avAs_free rfl) .nil)) .nil ?_)
    rintro _ _ _ hn ⟨z_2, hz_2, z_3, hz_3, rfl, rfl, rfl⟩
    refine ⟨.inl rfl, (upd (upd (rem [] _) 3 (lstB z_2 3 (r_3.1.map e_TJCell))) 4 (lstB z_3 3 (r_3.2.map e_TJVal))), fun hbd => (m3_cons (m3_row rfl (fr_map fun _ => rfl)) (m3_cons (m3_row rfl (fr_map fun _ => rfl)) (m3_rem (in_nil _) (.cons (by decide) (.cons (by decide) .nil)) hbd))), (.tup [(lstV z_2 3 3 r_3.1.length), (lstV z_3 4 3 r_3.2.length)]), 5, (by cases z_2 <;> cases z_3 <;> rfl), rfl, ?_⟩
    refine un (a1 rfl ?_)
    refine un (a1 (v := (lstV z_2 3 3 r_3.1.length)) rfl ?_)
    refine un (a1 (v := (lstV z_3 4 3 r_3.2.length)) rfl ?_)
    refine un (a1 rfl ?_)
    refine un (a1 rfl ?_)
    refine dnil ?_
    refine Sv.seq ?_
    refine Sv.region ?_
    refine un (a1 rfl ?_)
    refine un (a1 (v := (.agg [cI b_.Kind, cI b_.N, .str b_.S])) rfl ?_)
    refine un (a2v (v := (lstV false 5 3 [b_].length)) (h' := upd _ 5 (lstB false 3 ([b_].map e_TJVal))) (n' := 6) rfl rfl (fun h => by cases h) ?_)
    refine dweak (show Weak 0 _ ⟨(upd (upd (upd (upd (upd (upd (upd (upd (upd (upd (upd (upd (upd (upd (upd (upd (upd (upd (upd (upd (upd (fun _ => none) 0 (some (.c (.ro false 3 (g_.map e_TJCell))))) 2 (some (.c (.ro false 3 (h_.map e_TJCell))))) 5 (some (.c (.ref 0 3 0 0)))) 7 (some (.c (.ref 1 3 0 0)))) 9 (some (B r_.1))) 10 (some (I r_.2))) 11 (some (I say2))) 12 (some (lstV z_2 3 3 r_3.1.length))) 13 (some (lstV z_3 4 3 r_3.2.length))) 42 (some (I say2))) 43 (some (B (!decide (say2 = 0))))) 51 (some (.tup [(lstV z_2 3 3 r_3.1.length), (lstV z_3 4 3 r_3.2.length)]))) 52 (some (.c (.ro false 3 (g_.map e_TJCell))))) 53 (some (.agg [cI a_.Kind, cI a_.N, .str a_.S]))) 54 (some (.c (.ro false 3 ([a_].map e_TJVal))))) 55 (some (.tup [(lstV z_2 3 3 r_3.1.length), (lstV z_3 4 3 r_3.2.length)]))) 56 (some (lstV z_2 3 3 r_3.1.length))) 57 (some (lstV z_3 4 3 r_3.2.length))) 59 (some (.c (.ro false 3 (h_.map e_TJCell))))) 60 (some (.agg [cI b_.Kind, cI b_.N, .str b_.S]))) 61 (some (.c (.ro false 3 ([b_].map e_TJVal))))), (upd (upd (upd (upd (fun _ => none) 0 (some (.cells 3 [[cI a_.Kind, cI a_.N, .str a_.S]]))) 1 (some (.cells 3 [[cI b_.Kind, cI b_.N, .str b_.S]]))) 3 (lstB z_2 3 (r_3.1.map e_TJCell))) 4 (lstB z_3 3 (r_3.2.map e_TJVal))), 6⟩ from (weak_canon [0, 1, 1002, 3, 4, 1005] rfl (by decide) (by decide) (fun b h => absurd h (Nat.not_lt_zero _)) (.cons rfl (.c (lstC_ro (es := List.map e_TJVal [b_]) rfl (List.length_map e_TJVal).symm (map_nil_of (fun h => by cases h)) (fun b x hx => not_in (bs := [0, 1, 1002, 3, 4, 1005]) rfl b (((.cons (by decide) (.cons (by decide) (.cons (by decide) (.cons (by decide) .nil)))) : HLt _ _) b x hx)) (fr_map fun _ => rfl))) (.cons rfl (avAs_free rfl) (.cons rfl (avAs_free rfl) (.cons rfl (.c (lstC_ren rfl (by decide))) (.cons rfl (.c (lstC_ren rfl (by decide))) (.cons rfl (avAs_tup (.cons (.c (lstC_ren rfl (by decide))) (.cons (.c (lstC_ren rfl (by decide))) .nil))) (.cons rfl (avAs_free rfl) (.cons rfl (avAs_free rfl) (.cons rfl (avAs_free rfl) (.cons rfl (avAs_tup (.cons (.c (lstC_ren rfl (by decide))) (.cons (.c (lstC_ren rfl (by decide))) .nil))) (.cons rfl (avAs_free rfl) (.cons rfl (avAs_free rfl) (.cons rfl (.c (lstC_ren rfl (by decide))) (.cons rfl (.c (lstC_ren rfl (by decide))) (.cons rfl (avAs_free rfl) (.cons rfl (avAs_free rfl) (.cons rfl (avAs_free rfl) (.cons rfl (.c (.ref rfl (by decide))) (.cons rfl (.c (.ref rfl (by decide))) (.cons rfl (avAs_free rfl) (.cons rfl (avAs_free rfl) .nil))))))))))))))))))))) (.row (by decide) rfl (fr_map fun _ => rfl) (.row (by decide) rfl (fr_map fun _ => rfl) (.box (by decide) rfl (blkAs_cells (.cons (.same rfl) (.cons (.same rfl) (.cons (.same rfl) .nil)))) (.box (by decide) rfl (blkAs_cells (.cons (.same rfl) (.cons (.same rfl) (.cons (.same rfl) .nil)))) .nil)))))) ?_
    obtain ⟨r_5, hr6, h⟩ := bnd h
    refine un (ac_gen (bs := []) («as» := [(.c (.ro false 3 (h_.map e_TJCell))), (.c (.ro false 3 ([b_].map e_TJVal)))]) (h2 := _) (h1 := (fun _ => none)) (clerestoryref4_MovedCells_ok hr6) rfl (.cons (avAs_free rfl) (.cons (avAs_free rfl) .nil)) (hsub_refl _) (.nil _) (fun _ => rfl) (by decide) (by decide) (.cons (avAs_free rfl) (.cons (avAs_free rfl) .nil)) .nil ?_)
    rintro _ _ _ hn ⟨z_6, hz_6, z_7, hz_7, rfl, rfl, rfl⟩
    refine ⟨.inl rfl, (upd (upd (rem [] _) 6 (lstB z_6 3 (r_5.1.map e_TJCell))) 7 (lstB z_7 3 (r_5.2.map e_TJVal))), fun hbd => (m3_cons (m3_row rfl (fr_map fun _ => rfl)) (m3_cons (m3_row rfl (fr_map fun _ => rfl)) (m3_rem (in_nil _) (.cons (by decide) (.cons (by decide) .nil)) hbd))), (.tup [(lstV z_6 6 3 r_5.1.length), (lstV z_7 7 3 r_5.2.length)]), 8, (by cases z_6 <;> cases z_7 <;> rfl), rfl, ?_⟩
    refine un (a1 rfl ?_)
    refine un (a1 (v := (lstV z_6 6 3 r_5.1.length)) rfl ?_)
    refine un (a1 (v := (lstV z_7 7 3 r_5.2.length)) rfl ?_)
    refine un (a1 rfl ?_)
    refine un (a1 rfl ?_)
    refine dnil ?_
    refine Sv.seq ?_
    refine Sv.drawn ?_
    refine un (a1 rfl ?_)
    refine un (a1 rfl ?_)
    refine un (a1 rfl ?_)
    obtain ⟨r_6, hr7, h⟩ := bnd h
    refine un (ac_lend (h2 := (upd (upd _ 3 none) 6 none)) (clerestoryref4_SameCells_ok hr7) rfl (.cons (.c (lstC_ro (es := List.map e_TJCell r_3.1) rfl (List.length_map e_TJCell).symm (map_nil_of hz_2) (gone rfl) (fr_map fun _ => rfl))) (.cons (.c (lstC_ro (es := List.map e_TJCell r_5.1) rfl (List.length_map e_TJCell).symm (map_nil_of hz_6) (gone rfl) (fr_map fun _ => rfl))) .nil)) (hsub_none (hsub_none (hsub_refl _))) rfl rfl (.inr rfl) ?_)
    refine un (a1 rfl ?_)
    refine split2 (fun hc3 => ?_) (fun hc3 => ?_)
    · replace h := ifT hc3 h
      refine gt rfl (a1 rfl ?_)
      obtain ⟨x_, hx1, h⟩ := bnd h
      refine gt rfl (a1 (v := (.c (.ref 4 3 (0 : Int).toNat 0))) (s_iaddrL rfl rfl hz_3 hx1) ?_)
      refine gt rfl (a1 (v := (.agg [cI x_.Kind, cI x_.N, .str x_.S])) (s_loadL (z := z_3) (e := e_TJVal) rfl rfl hz_3 hx1 rfl rfl) ?_)
      refine gt rfl (a1 rfl ?_)
      obtain ⟨x_1, hx2, h⟩ := bnd h
      refine gt rfl (a1 (v := (.c (.ref 7 3 (0 : Int).toNat 0))) (s_iaddrL rfl rfl hz_7 hx2) ?_)
      refine gt rfl (a1 (v := (.agg [cI x_1.Kind, cI x_1.N, .str x_1.S])) (s_loadL (z := z_7) (e := e_TJVal) rfl rfl hz_7 hx2 rfl rfl) ?_)
      obtain ⟨v76, hv76⟩ : ∃ v76 : Bool, v76 = (decide (x_.Kind = x_1.Kind) && (decide (x_.N = x_1.N) && (decide (x_.S = x_1.S) && true))) := ⟨_, rfl⟩
      replace h := letAt hv76 h
      refine gt rfl (a1 (v := (B v76)) (by rw [hv76]; rfl) ?_)
      clear hv76
      refine un (a1 (v := (B v76)) rfl ?_)
      refine un (a1 (v := (B ((r_.1 == v76) && true))) rfl ?_)
      refine un (a1 rfl ?_)
      refine gjoin 3 (d := 82) (v := (B (((r_.1 == v76) && true) && (decide (r_.2 = 0))))) (fun X hX => ?_) ?_
      · refine split2 (fun hc4 => ?_) (fun hc4 => ?_)
        · refine gt rfl (a1 rfl ?_)
          refine gt rfl (a1 (v := (B (decide (r_.2 = 0)))) rfl ?_)
          refine un (a1 (v := (B (decide (r_.2 = 0)))) rfl ?_)
          refine dnil ?_
          exact hX _ (.putEq (by rw [hc4]; rfl) (.skip _ _ (.skip _ _ (.putEq (by rw [hc4]) (.refl _)) rfl) rfl))
        · refine gs rfl rfl ?_
          refine gs rfl rfl ?_
          refine un (a1 (v := (B false)) rfl ?_)
          refine dnil ?_
          exact hX _ (.putEq (by rw [hc4]; rfl) (.skip _ _ (.skip _ _ (.putEq (by rw [hc4]) (.refl _)) rfl) rfl))
      refine un (a1 rfl ?_)
      refine dnil ?_
      exact Sv.weak (weak_canon [] rfl (by decide) (by decide) (fun b h => absurd h (Nat.not_lt_zero _)) (.cons rfl (avAs_free rfl) .nil) .nil) (clerestorylaw4_HeapAlike_j4_ok h)
    · replace h := ifF hc3 h
      refine gs rfl rfl ?_
      refine gs rfl rfl ?_
      refine gs rfl rfl ?_
      refine gs rfl rfl ?_
      refine gs rfl rfl ?_
      refine gs rfl rfl ?_
      refine gs rfl rfl ?_
      refine un (a1 (v := (B false)) rfl ?_)
      refine un (a1 (v := (B ((r_.1 == false) && true))) rfl ?_)
      refine un (a1 rfl ?_)
      refine gjoin 3 (d := 82) (v := (B (((r_.1 == false) && true) && (decide (r_.2 = 0))))) (fun X hX => ?_) ?_
      · refine split2 (fun hc5 => ?_) (fun hc5 => ?_)
        · refine gt rfl (a1 rfl ?_)
          refine gt rfl (a1 (v := (B (decide (r_.2 = 0)))) rfl ?_)
          refine un (a1 (v := (B (decide (r_.2 = 0)))) rfl ?_)
          refine dnil ?_
          exact hX _ (.putEq (by rw [hc5]; rfl) (.skip _ _ (.skip _ _ (.putEq (by rw [hc5]) (.refl _)) rfl) rfl))
        · refine gs rfl rfl ?_
          refine gs rfl rfl ?_
          refine un (a1 (v := (B false)) rfl ?_)
          refine dnil ?_
          exact hX _ (.putEq (by rw [hc5]; rfl) (.skip _ _ (.skip _ _ (.putEq (by rw [hc5]) (.refl _)) rfl) rfl))
      refine un (a1 rfl ?_)
      refine dnil ?_
      exact Sv.weak (weak_canon [] rfl (by decide) (by decide) (fun b h => absurd h (Nat.not_lt_zero _)) (.cons rfl (avAs_free rfl) .nil) .nil) (clerestorylaw4_HeapAlike_j4_ok h)
noncomputable def clerestorylaw4_HeapAlike_j2 (h_ : (List TJCell)) (b_ : TJVal) (r_ : (Bool × Int)) (g_ : (List TJCell)) (a_ : TJVal) (say1 : Int) : Option Bool :=
  if decide (say1 = 0) then
    (clerestoryref4_HeapAsked h_ [b_]).bind fun r_7 =>
    clerestorylaw4_HeapAlike_j3 r_ g_ a_ h_ b_ r_7
  else
    clerestorylaw4_HeapAlike_j3 r_ g_ a_ h_ b_ say1
theorem clerestorylaw4_HeapAlike_j2_ok {Γ : Glob} {h_ : (List TJCell)} {b_ : TJVal} {r_ : (Bool × Int)} {g_ : (List TJCell)} {a_ : TJVal} {say1 : Int} {o : Bool} (h : clerestorylaw4_HeapAlike_j2 h_ b_ r_ g_ a_ say1 = some o) :
    Sv Try.prog Γ 0 a4_c1 (Ends a4.results 0 (clerestorylaw4_HeapAlike_post o)) ⟨(upd (upd (upd (upd (upd (upd (upd (fun _ => none) 0 (some (.c (.ro false 3 (g_.map e_TJCell))))) 2 (some (.c (.ro false 3 (h_.map e_TJCell))))) 5 (some (.c (.ref 0 3 0 0)))) 7 (some (.c (.ref 1 3 0 0)))) 9 (some (B r_.1))) 10 (some (I r_.2))) 11 (some (I say1))), (upd (upd (fun _ => none) 0 (some (.cells 3 [[cI a_.Kind, cI a_.N, .str a_.S]]))) 1 (some (.cells 3 [[cI b_.Kind, cI b_.N, .str b_.S]]))), 2⟩ := by
  unfold clerestorylaw4_HeapAlike_j2 at h
  refine Sv.seq ?_
  refine Sv.seq ?_
  refine Sv.region ?_
  refine un (a1 rfl ?_)
  refine un (a1 (v := (B (decide (say1 = 0)))) rfl ?_)
  refine dnil ?_
  refine Sv.cond (b := decide (say1 = 0)) rfl (fun hc6 => ?_) (fun hc6 => ?_)
  · replace h := ifT hc6 h
    refine Sv.region ?_
    refine un (a1 rfl ?_)
    refine un (a1 (v := (.agg [cI b_.Kind, cI b_.N, .str b_.S])) rfl ?_)
    refine un (a2v (v := (lstV false 2 3 [b_].length)) (h' := upd _ 2 (lstB false 3 ([b_].map e_TJVal))) (n' := 3) rfl rfl (fun h => by cases h) ?_)
    obtain ⟨r_7, hr8, h⟩ := bnd h
    refine un (ac_lend (h2 := (upd _ 2 none)) (clerestoryref4_HeapAsked_ok hr8) rfl (.cons (avAs_free rfl) (.cons (.c (lstC_ro (es := List.map e_TJVal [b_]) rfl (List.length_map e_TJVal).symm (map_nil_of (fun h => by cases h)) (gone rfl) (fr_map fun _ => rfl))) .nil)) (hsub_none (hsub_refl _)) rfl rfl (.inr rfl) ?_)
    refine un (a1 rfl ?_)
    refine dnil ?_
    exact Sv.weak (weak_canon [0, 1] rfl (by decide) (by decide) (fun b h => absurd h (Nat.not_lt_zero _)) (.cons rfl (avAs_free rfl) (.cons rfl (avAs_free rfl) (.cons rfl (avAs_free rfl) (.cons rfl (.c (.ref rfl (by decide))) (.cons rfl (.c (.ref rfl (by decide))) (.cons rfl (avAs_free rfl) (.cons rfl (avAs_free rfl) .nil))))))) (.box (by decide) rfl (blkAs_cells (.cons (.same rfl) (.cons (.same rfl) (.cons (.same rfl) .nil)))) (.box (by decide) rfl (blkAs_cells (.cons (.same rfl) (.cons (.same rfl) (.cons (.same rfl) .nil)))) .nil))) (clerestorylaw4_HeapAlike_j3_ok h)
  · replace h := ifF hc6 h
    refine Sv.skip ?_
    exact Sv.weak (weak_canon [0, 1] rfl (by decide) (by decide) (fun b h => absurd h (Nat.not_lt_zero _)) (.cons rfl (avAs_free rfl) (.cons rfl (avAs_free rfl) (.cons rfl (avAs_free rfl) (.cons rfl (.c (.ref rfl (by decide))) (.cons rfl (.c (.ref rfl (by decide))) (.cons rfl (avAs_free rfl) (.cons rfl (avAs_free rfl) .nil))))))) (.box (by decide) rfl (blkAs_cells (.cons (.same rfl) (.cons (.same rfl) (.cons (.same rfl) .nil)))) (.box (by decide) rfl (blkAs_cells (.cons (.same rfl) (.cons (.same rfl) (.cons (.same rfl) .nil)))) .nil))) (clerestorylaw4_HeapAlike_j3_ok h)
noncomputable def clerestorylaw4_HeapAlike_j1 (g_ : (List TJCell)) (a_ : TJVal) (h_ : (List TJCell)) (b_ : TJVal) (r_ : (Bool × Int)) (say : Int) : Option Bool :=
  if decide (say = 0) then
    (clerestoryref4_HeapAsked g_ [a_]).bind fun r_8 =>
    clerestorylaw4_HeapAlike_j2 h_ b_ r_ g_ a_ r_8
  else
    clerestorylaw4_HeapAlike_j2 h_ b_ r_ g_ a_ say
theorem clerestorylaw4_HeapAlike_j1_ok {Γ : Glob} {g_ : (List TJCell)} {a_ : TJVal} {h_ : (List TJCell)} {b_ : TJVal} {r_ : (Bool × Int)} {say : Int} {o : Bool} (h : clerestorylaw4_HeapAlike_j1 g_ a_ h_ b_ r_ say = some o) :
    Sv Try.prog Γ 0 a4_c0 (Ends a4.results 0 (clerestorylaw4_HeapAlike_post o)) ⟨(upd (upd (upd (upd (upd (upd (upd (fun _ => none) 0 (some (.c (.ro false 3 (g_.map e_TJCell))))) 2 (some (.c (.ro false 3 (h_.map e_TJCell))))) 5 (some (.c (.ref 0 3 0 0)))) 7 (some (.c (.ref 1 3 0 0)))) 9 (some (B r_.1))) 10 (some (I r_.2))) 11 (some (I say))), (upd (upd (fun _ => none) 0 (some (.cells 3 [[cI a_.Kind, cI a_.N, .str a_.S]]))) 1 (some (.cells 3 [[cI b_.Kind, cI b_.N, .str b_.S]]))), 2⟩ := by
  unfold clerestorylaw4_HeapAlike_j1 at h
  refine Sv.seq ?_
  refine Sv.seq ?_
  refine Sv.region ?_
  refine un (a1 rfl ?_)
  refine un (a1 (v := (B (decide (say = 0)))) rfl ?_)
  refine dnil ?_
  refine Sv.cond (b := decide (say = 0)) rfl (fun hc7 => ?_) (fun hc7 => ?_)
  · replace h := ifT hc7 h
    refine Sv.region ?_
    refine un (a1 rfl ?_)
    refine un (a1 (v := (.agg [cI a_.Kind, cI a_.N, .str a_.S])) rfl ?_)
    refine un (a2v (v := (lstV false 2 3 [a_].length)) (h' := upd _ 2 (lstB false 3 ([a_].map e_TJVal))) (n' := 3) rfl rfl (fun h => by cases h) ?_)
    obtain ⟨r_8, hr9, h⟩ := bnd h
    refine un (ac_lend (h2 := (upd _ 2 none)) (clerestoryref4_HeapAsked_ok hr9) rfl (.cons (avAs_free rfl) (.cons (.c (lstC_ro (es := List.map e_TJVal [a_]) rfl (List.length_map e_TJVal).symm (map_nil_of (fun h => by cases h)) (gone rfl) (fr_map fun _ => rfl))) .nil)) (hsub_none (hsub_refl _)) rfl rfl (.inr rfl) ?_)
    refine un (a1 rfl ?_)
    refine dnil ?_
    exact Sv.weak (weak_canon [0, 1] rfl (by decide) (by decide) (fun b h => absurd h (Nat.not_lt_zero _)) (.cons rfl (avAs_free rfl) (.cons rfl (avAs_free rfl) (.cons rfl (avAs_free rfl) (.cons rfl (.c (.ref rfl (by decide))) (.cons rfl (.c (.ref rfl (by decide))) (.cons rfl (avAs_free rfl) (.cons rfl (avAs_free rfl) .nil))))))) (.box (by decide) rfl (blkAs_cells (.cons (.same rfl) (.cons (.same rfl) (.cons (.same rfl) .nil)))) (.box (by decide) rfl (blkAs_cells (.cons (.same rfl) (.cons (.same rfl) (.cons (.same rfl) .nil)))) .nil))) (clerestorylaw4_HeapAlike_j2_ok h)
  · replace h := ifF hc7 h
    refine Sv.skip ?_
    exact Sv.weak (weak_canon [0, 1] rfl (by decide) (by decide) (fun b h => absurd h (Nat.not_lt_zero _)) (.cons rfl (avAs_free rfl) (.cons rfl (avAs_free rfl) (.cons rfl (avAs_free rfl) (.cons rfl (.c (.ref rfl (by decide))) (.cons rfl (.c (.ref rfl (by decide))) (.cons rfl (avAs_free rfl) (.cons rfl (avAs_free rfl) .nil))))))) (.box (by decide) rfl (blkAs_cells (.cons (.same rfl) (.cons (.same rfl) (.cons (.same rfl) .nil)))) (.box (by decide) rfl (blkAs_cells (.cons (.same rfl) (.cons (.same rfl) (.cons (.same rfl) .nil)))) .nil))) (clerestorylaw4_HeapAlike_j2_ok h)
/-- clerestory/clerestorylaw4.HeapAlike -/
noncomputable def clerestorylaw4_HeapAlike (g_ : (List TJCell)) (a_ : TJVal) (h_ : (List TJCell)) (b_ : TJVal) : Option Bool :=
  (heap_Alike g_ a_ h_ b_).bind fun r_ =>
  (clerestoryref4_HeapAsked g_ ([] : List TJVal)).bind fun r_1 =>
  if decide (r_1 = 0) then
    (clerestoryref4_HeapAsked h_ ([] : List TJVal)).bind fun r_9 =>
    clerestorylaw4_HeapAlike_j1 g_ a_ h_ b_ r_ r_9
  else
    clerestorylaw4_HeapAlike_j1 g_ a_ h_ b_ r_ r_1
theorem clerestorylaw4_HeapAlike_ok {Γ : Glob} {g_ : (List TJCell)} {a_ : TJVal} {h_ : (List TJCell)} {b_ : TJVal} {r : Bool} (h : clerestorylaw4_HeapAlike g_ a_ h_ b_ = some r) : CPure Try.prog Γ 4 [(.c (.ro false 3 (g_.map e_TJCell))), (.agg [cI a_.Kind, cI a_.N, .str a_.S]), (.c (.ro false 3 (h_.map e_TJCell))), (.agg [cI b_.Kind, cI b_.N, .str b_.S])] (B r) := by
  refine acalls_of_sv hmix c4 (R := clerestorylaw4_HeapAlike_post r) ?_
  unfold clerestorylaw4_HeapAlike at h
  refine Sv.seq ?_
  refine Sv.region ?_
  refine un (a2v (v := (.c (.ref 0 3 0 0))) (h' := upd _ 0 (some (.cells 3 [[cI a_.Kind, cI a_.N, .str a_.S]]))) (n' := 1) rfl rfl (fun h => by cases h) ?_)
  refine un (a2v (v := (.c (.ref 1 3 0 0))) (h' := upd _ 1 (some (.cells 3 [[cI b_.Kind, cI b_.N, .str b_.S]]))) (n' := 2) rfl rfl (fun h => by cases h) ?_)
  refine un (a1 rfl ?_)
  refine dnil ?_
  refine Sv.seq ?_
  refine Sv.region ?_
  refine un (a1 rfl ?_)
  refine un (a1 (v := (.agg [cI a_.Kind, cI a_.N, .str a_.S])) rfl ?_)
  refine un (a1 rfl ?_)
  refine un (a1 (v := (.agg [cI b_.Kind, cI b_.N, .str b_.S])) rfl ?_)
  obtain ⟨r_, hr1, h⟩ := bnd h
  refine un (ac_pure (heap_Alike_ok hr1) rfl rfl rfl ?_)
  refine un (a1 rfl ?_)
  refine un (a1 (v := (B r_.1)) rfl ?_)
  refine un (a1 (v := (I r_.2)) rfl ?_)
  refine un (a1 rfl ?_)
  refine un (a1 rfl ?_)
  refine dnil ?_
  refine Sv.seq ?_
  refine Sv.region ?_
  refine un (a1 rfl ?_)
  obtain ⟨r_1, hr2, h⟩ := bnd h
  refine un (ac_lend (h2 := _) (clerestoryref4_HeapAsked_ok hr2) rfl (.cons (avAs_free rfl) (.cons (.c .nil) .nil)) (hsub_refl _) rfl rfl (.inl rfl) ?_)
  refine un (a1 rfl ?_)
  refine dnil ?_
  refine Sv.seq ?_
  refine Sv.seq ?_
  refine Sv.region ?_
  refine un (a1 rfl ?_)
  refine un (a1 (v := (B (decide (r_1 = 0)))) rfl ?_)
  refine dnil ?_
  refine Sv.cond (b := decide (r_1 = 0)) rfl (fun hc8 => ?_) (fun hc8 => ?_)
  · replace h := ifT hc8 h
    refine Sv.region ?_
    refine un (a1 rfl ?_)
    obtain ⟨r_9, hr10, h⟩ := bnd h
    refine un (ac_lend (h2 := _) (clerestoryref4_HeapAsked_ok hr10) rfl (.cons (avAs_free rfl) (.cons (.c .nil) .nil)) (hsub_refl _) rfl rfl (.inl rfl) ?_)
    refine un (a1 rfl ?_)
    refine dnil ?_
    exact Sv.weak (weak_canon [0, 1] rfl (by decide) (by decide) (fun b h => absurd h (Nat.not_lt_zero _)) (.cons rfl (avAs_free rfl) (.cons rfl (avAs_free rfl) (.cons rfl (avAs_free rfl) (.cons rfl (.c (.ref rfl (by decide))) (.cons rfl (.c (.ref rfl (by decide))) (.cons rfl (avAs_free rfl) (.cons rfl (avAs_free rfl) .nil))))))) (.box (by decide) rfl (blkAs_cells (.cons (.same rfl) (.cons (.same rfl) (.cons (.same rfl) .nil)))) (.box (by decide) rfl (blkAs_cells (.cons (.same rfl) (.cons (.same rfl) (.cons (.same rfl) .nil)))) .nil))) (clerestorylaw4_HeapAlike_j1_ok h)
  · replace h := ifF hc8 h
    refine Sv.skip ?_
    exact Sv.weak (weak_canon [0, 1] rfl (by decide) (by decide) (fun b h => absurd h (Nat.not_lt_zero _)) (.cons rfl (avAs_free rfl) (.cons rfl (avAs_free rfl) (.cons rfl (avAs_free rfl) (.cons rfl (.c (.ref rfl (by decide))) (.cons rfl (.c (.ref rfl (by decide))) (.cons rfl (avAs_free rfl) (.cons rfl (avAs_free rfl) .nil))))))) (.box (by decide) rfl (blkAs_cells (.cons (.same rfl) (.cons (.same rfl) (.cons (.same rfl) .nil)))) (.box (by decide) rfl (blkAs_cells (.cons (.same rfl) (.cons (.same rfl) (.cons (.same rfl) .nil)))) .nil))) (clerestorylaw4_HeapAlike_j1_ok h)
end Go.Proofs.YtagfmlkihindaaaBv
