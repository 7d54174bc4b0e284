/- Printed by a program of mine (bgen.py): plain functions, and the walks that show that the code comes to what they answer. -/
import Derived.Test.YtoomjemboekooaaDoorGEventSays2
namespace Go.Proofs.YtoomjemboekooaaDoorBv
open Go
set_option linter.unusedVariables false
set_option linter.unusedSimpArgs false
set_option maxRecDepth 100000
def a3_c0 : ACode := .ret
def a3 : AFunc := ⟨3, [(.tmp 6)], (.seq (.region [⟨(some 3), (.box (.tmp 0)), none⟩, ⟨(some 5), (.box (.tmp 2)), none⟩, ⟨(some 6), (.mov (.const (.c (.val (.bool false))))), none⟩])
 (.seq (.region [⟨(some 20), (.load true 2 (.tmp 3)), none⟩, ⟨(some 21), (.faddr 1 (.tmp 5)), none⟩, ⟨(some 22), (.load false 1 (.tmp 21)), none⟩, ⟨(some 23), (.call 5 [(.tmp 20), (.tmp 22)]), none⟩, ⟨(some 19), (.mov (.tmp 23)), none⟩, ⟨(some 24), (.ext (.tmp 19) 0), none⟩, ⟨(some 25), (.ext (.tmp 19) 1), none⟩, ⟨(some 7), (.mov (.tmp 24)), none⟩, ⟨(some 8), (.mov (.tmp 25)), none⟩])
 (.seq (.region [⟨(some 27), (.load true 2 (.tmp 3)), none⟩, ⟨(some 28), (.mov (.tmp 1)), none⟩, ⟨(some 29), (.load true 7 (.tmp 5)), none⟩, ⟨(some 30), (.call 6 [(.tmp 27), (.tmp 28), (.tmp 29)]), none⟩, ⟨(some 26), (.mov (.tmp 30)), none⟩, ⟨(some 31), (.ext (.tmp 26) 0), none⟩, ⟨(some 32), (.ext (.tmp 26) 1), none⟩, ⟨(some 33), (.ext (.tmp 26) 2), none⟩, ⟨(some 34), (.ext (.tmp 26) 3), none⟩, ⟨(some 9), (.mov (.tmp 31)), none⟩, ⟨(some 10), (.mov (.tmp 32)), none⟩, ⟨(some 11), (.mov (.tmp 33)), none⟩, ⟨(some 12), (.mov (.tmp 34)), none⟩])
 (.seq (.region [⟨(some 36), (.load true 2 (.tmp 3)), none⟩, ⟨(some 37), (.faddr 1 (.tmp 5)), none⟩, ⟨(some 38), (.load false 1 (.tmp 37)), none⟩, ⟨(some 39), (.call 7 [(.tmp 36), (.tmp 38)]), none⟩, ⟨(some 35), (.mov (.tmp 39)), none⟩, ⟨(some 40), (.ext (.tmp 35) 0), none⟩, ⟨(some 41), (.ext (.tmp 35) 1), none⟩, ⟨(some 13), (.mov (.tmp 40)), none⟩, ⟨(some 14), (.mov (.tmp 41)), none⟩])
 (.seq (.seq (.region [⟨(some 42), (.mov (.tmp 7)), none⟩, ⟨(some 43), (.mov (.tmp 13)), none⟩, ⟨(some 44), (.call 8 [(.tmp 42), (.tmp 43)]), none⟩, ⟨(some 45), (.un .not (.tmp 44)), none⟩, ⟨(some 46), (.mov (.tmp 45)), none⟩, ⟨(some 47), (.mov (.tmp 8)), (some (46, false))⟩, ⟨(some 48), (.mov (.tmp 14)), (some (46, false))⟩, ⟨(some 49), (.bin .neq (.tmp 47) (.tmp 48)), (some (46, false))⟩, ⟨(some 50), (.pick (.tmp 46) (.const (.c (.val (.bool true)))) (.tmp 49)), none⟩])
 (.cond (.tmp 50) (.seq (.region [⟨(some 6), (.mov (.const (.c (.val (.bool false))))), none⟩])
 .ret) .skip))
 (.seq (.region [⟨(some 52), (.load true 2 (.tmp 3)), none⟩, ⟨(some 53), (.mov (.tmp 1)), none⟩, ⟨(some 54), (.load true 7 (.tmp 5)), none⟩, ⟨(some 55), (.call 9 [(.tmp 52), (.tmp 53), (.tmp 54)]), none⟩, ⟨(some 51), (.mov (.tmp 55)), none⟩, ⟨(some 56), (.ext (.tmp 51) 0), none⟩, ⟨(some 57), (.ext (.tmp 51) 1), none⟩, ⟨(some 58), (.ext (.tmp 51) 2), none⟩, ⟨(some 59), (.ext (.tmp 51) 3), none⟩, ⟨(some 15), (.mov (.tmp 56)), none⟩, ⟨(some 16), (.mov (.tmp 57)), none⟩, ⟨(some 17), (.mov (.tmp 58)), none⟩, ⟨(some 18), (.mov (.tmp 59)), none⟩])
 (.seq (.region [⟨(some 60), (.mov (.tmp 9)), none⟩, ⟨(some 61), (.mov (.tmp 15)), none⟩, ⟨(some 62), (.call 10 [(.tmp 60), (.tmp 61)]), none⟩, ⟨(some 63), (.mov (.tmp 62)), none⟩, ⟨(some 64), (.mov (.tmp 10)), (some (63, true))⟩, ⟨(some 65), (.mov (.tmp 16)), (some (63, true))⟩, ⟨(some 66), (.eqs false false [.b] (.tmp 64) (.tmp 65)), (some (63, true))⟩, ⟨(some 67), (.pick (.tmp 63) (.tmp 66) (.const (.c (.val (.bool false))))), none⟩, ⟨(some 68), (.mov (.tmp 67)), none⟩, ⟨(some 69), (.mov (.tmp 11)), (some (68, true))⟩, ⟨(some 70), (.mov (.tmp 17)), (some (68, true))⟩, ⟨(some 71), (.call 11 [(.tmp 69), (.tmp 70)]), (some (68, true))⟩, ⟨(some 72), (.pick (.tmp 68) (.tmp 71) (.const (.c (.val (.bool false))))), none⟩, ⟨(some 73), (.mov (.tmp 72)), none⟩, ⟨(some 74), (.mov (.tmp 12)), (some (73, true))⟩, ⟨(some 75), (.mov (.tmp 18)), (some (73, true))⟩, ⟨(some 76), (.bin .eql (.tmp 74) (.tmp 75)), (some (73, true))⟩, ⟨(some 77), (.pick (.tmp 73) (.tmp 76) (.const (.c (.val (.bool false))))), none⟩, ⟨(some 6), (.mov (.tmp 77)), none⟩])
 a3_c0)))))))⟩
set_option maxRecDepth 100000 in
theorem c3 : compFunc Tryd.prog 3 = some a3 := by kernel_rfl
def clerestorylaw4_EventSays_post (r : Bool) : AV → Heap → Nat → Prop := fun v h' n' => v = (B r) ∧ (h' = (fun _ => none)) ∧ n' = 0
noncomputable def clerestorylaw4_EventSays_j1 (v6 : Bool) : Option Bool :=
  some v6
theorem clerestorylaw4_EventSays_j1_ok {mL : Int} {v6 : Bool} {o : Bool} (h : clerestorylaw4_EventSays_j1 v6 = some o) :
    Sv Tryd.prog (GG mL) 0 a3_c0 (Ends a3.results 0 (clerestorylaw4_EventSays_post o)) ⟨(upd (fun _ => none) 6 (some (B v6))), (fun _ => none), 0⟩ := by
  unfold clerestorylaw4_EventSays_j1 at h
  refine Sv.ret ?_
  replace h := Option.some.inj h
  subst h
  exact ⟨_, .refl _, _, rfl, ⟨upd (fun _ => none) 0 (some (B v6)), (fun _ => none), 0⟩, (B v6), weak_canon [] rfl List.nodup_nil (Nat.le_refl _) (fun b h => absurd h (Nat.not_lt_zero _)) (.cons rfl (avAs_free rfl) .nil) .nil, rfl, rfl, rfl, rfl⟩
/-- clerestory/clerestorylaw4.EventSays -/
noncomputable def clerestorylaw4_EventSays (d_ : TDoc) (l_ : (List TListener)) (e_ : TEvent) : Option Bool :=
  (event_Path d_ e_.Target).bind fun r_ =>
  (event_Send d_ l_ e_).bind fun r_1 =>
  (clerestoryref4_WayTo d_ e_.Target).bind fun r_2 =>
  (slices_Equal_int r_.1 r_2.1).bind fun r_3 =>
  if ((!r_3) || (!decide (r_.2 = r_2.2))) then
    some false
  else
    (clerestoryref4_Sent d_ l_ e_).bind fun r_4 =>
    (slices_Equal_Heard r_1.1 r_4.1).bind fun r_5 =>
    if (r_5 && ((r_1.2.1 == r_4.2.1) && true)) then
      (slices_Equal_Listener r_1.2.2.1 r_4.2.2.1).bind fun r_6 =>
      clerestorylaw4_EventSays_j1 (r_6 && (decide (r_1.2.2.2 = r_4.2.2.2)))
    else
      clerestorylaw4_EventSays_j1 false
theorem clerestorylaw4_EventSays_ok {mL : Int} {d_ : TDoc} {l_ : (List TListener)} {e_ : TEvent} {r : Bool} (h : clerestorylaw4_EventSays d_ l_ e_ = some r) : CPure Tryd.prog (GG mL) 3 [(.agg [.ro false 6 (d_.Nodes.map e_TNode), cB d_.Quirks]), (.c (.ro false 8 (l_.map e_TListener))), (.agg [.str e_.f_Type, cI e_.Target, cI e_.X, cI e_.Y, .str e_.Key, cB e_.Bubbles, cB e_.Cancels])] (B r) := by
  refine acalls_of_sv hmix c3 (R := clerestorylaw4_EventSays_post r) ?_
  unfold clerestorylaw4_EventSays at h
  refine Sv.seq ?_
  refine Sv.region ?_
  refine un (a2v (v := (.c (.ref 0 2 0 0))) (h' := upd _ 0 (some (.cells 2 [[.ro false 6 (d_.Nodes.map e_TNode), cB d_.Quirks]]))) (n' := 1) rfl rfl (fun h => by cases h) ?_)
  refine un (a2v (v := (.c (.ref 1 7 0 0))) (h' := upd _ 1 (some (.cells 7 [[.str e_.f_Type, cI e_.Target, cI e_.X, cI e_.Y, .str e_.Key, cB e_.Bubbles, cB e_.Cancels]]))) (n' := 2) rfl rfl (fun h => by cases h) ?_)
  refine un (a1 rfl ?_)
  refine dnil ?_
  refine Sv.seq ?_
  refine Sv.region ?_
  refine un (a1 (v := (.agg [.ro false 6 (d_.Nodes.map e_TNode), cB d_.Quirks])) rfl ?_)
  refine un (a1 (v := (.c (.ref 1 7 0 1))) rfl ?_)
  refine un (a1 (v := (I e_.Target)) rfl ?_)
  obtain ⟨r_, hr1, h⟩ := bnd h
  refine un (ac_gen (bs := []) («as» := [(.agg [.ro false 6 (d_.Nodes.map e_TNode), cB d_.Quirks]), (I e_.Target)]) (h2 := _) (h1 := (fun _ => none)) (event_Path_ok hr1) rfl (.cons (avAs_free rfl) (.cons (avAs_free rfl) .nil)) (hsub_refl _) (.nil _) (fun _ => rfl) (by decide) (by decide) (.cons (avAs_free rfl) (.cons (avAs_free rfl) .nil)) .nil ?_)
  rintro _ _ _ hn ⟨z_, hz_, rfl, rfl, rfl⟩
  refine ⟨.inl rfl, (upd (rem [] _) 2 (lstB z_ 1 (r_.1.map eI))), fun hbd => (m3_cons (m3_row rfl (fr_map fun _ => rfl)) (m3_rem (in_nil _) (.cons (by decide) .nil) hbd)), (.tup [(lstV z_ 2 1 r_.1.length), (I r_.2)]), 3, (by cases z_ <;> rfl), rfl, ?_⟩
  refine un (a1 rfl ?_)
  refine un (a1 (v := (lstV z_ 2 1 r_.1.length)) rfl ?_)
  refine un (a1 (v := (I r_.2)) rfl ?_)
  refine un (a1 rfl ?_)
  refine un (a1 rfl ?_)
  refine dnil ?_
  refine Sv.seq ?_
  refine Sv.region ?_
  refine un (a1 (v := (.agg [.ro false 6 (d_.Nodes.map e_TNode), cB d_.Quirks])) rfl ?_)
  refine un (a1 rfl ?_)
  refine un (a1 (v := (.agg [.str e_.f_Type, cI e_.Target, cI e_.X, cI e_.Y, .str e_.Key, cB e_.Bubbles, cB e_.Cancels])) rfl ?_)
  obtain ⟨r_1, hr2, h⟩ := bnd h
  refine un (ac_gen (bs := []) («as» := [(.agg [.ro false 6 (d_.Nodes.map e_TNode), cB d_.Quirks]), (.c (.ro false 8 (l_.map e_TListener))), (.agg [.str e_.f_Type, cI e_.Target, cI e_.X, cI e_.Y, .str e_.Key, cB e_.Bubbles, cB e_.Cancels])]) (h2 := _) (h1 := (fun _ => none)) (event_Send_ok hr2) rfl (.cons (avAs_free rfl) (.cons (avAs_free rfl) (.cons (avAs_free rfl) .nil))) (hsub_refl _) (.nil _) (fun _ => rfl) (by decide) (by decide) (.cons (avAs_free rfl) (.cons (avAs_free rfl) (.cons (avAs_free rfl) .nil))) .nil ?_)
  rintro _ _ _ hn ⟨z_1, hz_1, z_2, hz_2, rfl, rfl, rfl⟩
  refine ⟨.inl rfl, (upd (upd (rem [] _) 3 (lstB z_1 3 (r_1.1.map e_THeard))) 4 (lstB z_2 8 (r_1.2.2.1.map e_TListener))), fun hbd => (m3_cons (m3_row rfl (fr_map fun _ => rfl)) (m3_cons (m3_row rfl (fr_map fun _ => rfl)) (m3_rem (in_nil _) (.cons (by decide) (.cons (by decide) .nil)) hbd))), (.tup [(lstV z_1 3 3 r_1.1.length), (B r_1.2.1), (lstV z_2 4 8 r_1.2.2.1.length), (I r_1.2.2.2)]), 5, (by cases z_1 <;> cases z_2 <;> rfl), rfl, ?_⟩
  refine un (a1 rfl ?_)
  refine un (a1 (v := (lstV z_1 3 3 r_1.1.length)) rfl ?_)
  refine un (a1 (v := (B r_1.2.1)) rfl ?_)
  refine un (a1 (v := (lstV z_2 4 8 r_1.2.2.1.length)) rfl ?_)
  refine un (a1 (v := (I r_1.2.2.2)) rfl ?_)
  refine un (a1 rfl ?_)
  refine un (a1 rfl ?_)
  refine un (a1 rfl ?_)
  refine un (a1 rfl ?_)
  refine dnil ?_
  refine Sv.seq ?_
  refine Sv.region ?_
  refine un (a1 (v := (.agg [.ro false 6 (d_.Nodes.map e_TNode), cB d_.Quirks])) rfl ?_)
  refine un (a1 (v := (.c (.ref 1 7 0 1))) rfl ?_)
  refine un (a1 (v := (I e_.Target)) rfl ?_)
  obtain ⟨r_2, hr3, h⟩ := bnd h
  refine un (ac_gen (bs := []) («as» := [(.agg [.ro false 6 (d_.Nodes.map e_TNode), cB d_.Quirks]), (I e_.Target)]) (h2 := _) (h1 := (fun _ => none)) (clerestoryref4_WayTo_ok hr3) rfl (.cons (avAs_free rfl) (.cons (avAs_free rfl) .nil)) (hsub_refl _) (.nil _) (fun _ => rfl) (by decide) (by decide) (.cons (avAs_free rfl) (.cons (avAs_free rfl) .nil)) .nil ?_)
  rintro _ _ _ hn ⟨z_3, hz_3, rfl, rfl, rfl⟩
  refine ⟨.inl rfl, (upd (rem [] _) 5 (lstB z_3 1 (r_2.1.map eI))), fun hbd => (m3_cons (m3_row rfl (fr_map fun _ => rfl)) (m3_rem (in_nil _) (.cons (by decide) .nil) hbd)), (.tup [(lstV z_3 5 1 r_2.1.length), (I r_2.2)]), 6, (by cases z_3 <;> rfl), rfl, ?_⟩
  refine un (a1 rfl ?_)
  refine un (a1 (v := (lstV z_3 5 1 r_2.1.length)) rfl ?_)
  refine un (a1 (v := (I r_2.2)) rfl ?_)
  refine un (a1 rfl ?_)
  refine un (a1 rfl ?_)
  refine dnil ?_
  refine Sv.seq ?_
  refine Sv.seq ?_
  refine Sv.region ?_
  refine un (a1 rfl ?_)
  refine un (a1 rfl ?_)
  obtain ⟨r_3, hr4, h⟩ := bnd h
  refine un (ac_lend (h2 := (upd (upd _ 2 none) 5 none)) (slices_Equal_int_ok hr4) rfl (.cons (.c (lstC_ro (es := List.map eI r_.1) rfl (List.length_map eI).symm (map_nil_of hz_) (gone rfl) (fr_map fun _ => rfl))) (.cons (.c (lstC_ro (es := List.map eI r_2.1) rfl (List.length_map eI).symm (map_nil_of hz_3) (gone rfl) (fr_map fun _ => rfl))) .nil)) (hsub_none (hsub_none (hsub_refl _))) rfl rfl (.inr rfl) ?_)
  refine un (a1 (v := (B (!r_3))) rfl ?_)
  refine un (a1 rfl ?_)
  refine gjoin 4 (d := 50) (v := (B ((!r_3) || (!decide (r_.2 = r_2.2))))) (fun X hX => ?_) ?_
  · refine split2 (fun hc1 => ?_) (fun hc1 => ?_)
    · refine gs rfl rfl ?_
      refine gs rfl rfl ?_
      refine gs rfl rfl ?_
      refine un (a1 (v := (B true)) rfl ?_)
      refine dnil ?_
      exact hX _ (.putEq (by rw [hc1]; rfl) (.skip _ _ (.skip _ _ (.skip _ _ (.putEq (by rw [hc1]) (.refl _)) rfl) rfl) rfl))
    · refine gt rfl (a1 rfl ?_)
      refine gt rfl (a1 rfl ?_)
      refine gt rfl (a1 (v := (B (!decide (r_.2 = r_2.2)))) rfl ?_)
      refine un (a1 (v := (B (!decide (r_.2 = r_2.2)))) rfl ?_)
      refine dnil ?_
      exact hX _ (.putEq (by rw [hc1]; rfl) (.skip _ _ (.skip _ _ (.skip _ _ (.putEq (by rw [hc1]) (.refl _)) rfl) rfl) rfl))
  refine dnil ?_
  refine Sv.cond (b := ((!r_3) || (!decide (r_.2 = r_2.2)))) rfl (fun hc2 => ?_) (fun hc2 => ?_)
  · replace h := ifT hc2 h
    refine Sv.seq ?_
    refine Sv.region ?_
    refine un (a1 rfl ?_)
    refine dnil ?_
    refine Sv.ret ?_
    replace h := Option.some.inj h
    subst h
    exact ⟨_, .refl _, _, rfl, ⟨upd (fun _ => none) 0 (some (B false)), (fun _ => none), 0⟩, (B false), weak_canon [] rfl List.nodup_nil (Nat.le_refl _) (fun b h => absurd h (Nat.not_lt_zero _)) (.cons rfl (avAs_free rfl) .nil) .nil, rfl, rfl, rfl, rfl⟩
  · replace h := ifF hc2 h
    refine Sv.skip ?_
    refine Sv.seq ?_
    refine Sv.region ?_
    refine un (a1 (v := (.agg [.ro false 6 (d_.Nodes.map e_TNode), cB d_.Quirks])) rfl ?_)
    refine un (a1 rfl ?_)
    refine un (a1 (v := (.agg [.str e_.f_Type, cI e_.Target, cI e_.X, cI e_.Y, .str e_.Key, cB e_.Bubbles, cB e_.Cancels])) rfl ?_)
    obtain ⟨r_4, hr5, h⟩ := bnd h
    refine un (ac_pure (clerestoryref4_Sent_ok hr5) rfl rfl rfl ?_)
    refine un (a1 rfl ?_)
    refine un (a1 (v := (.c (.ro false 3 (r_4.1.map e_THeard)))) rfl ?_)
    refine un (a1 (v := (B r_4.2.1)) rfl ?_)
    refine un (a1 (v := (.c (.ro false 8 (r_4.2.2.1.map e_TListener)))) rfl ?_)
    refine un (a1 (v := (I r_4.2.2.2)) rfl ?_)
    refine un (a1 rfl ?_)
    refine un (a1 rfl ?_)
    refine un (a1 rfl ?_)
    refine un (a1 rfl ?_)
    refine dnil ?_
    refine Sv.seq ?_
    refine Sv.region ?_
    refine un (a1 rfl ?_)
    refine un (a1 rfl ?_)
    obtain ⟨r_5, hr6, h⟩ := bnd h
    refine un (ac_lend (h2 := (upd _ 3 none)) (slices_Equal_Heard_ok hr6) rfl (.cons (.c (lstC_ro (es := List.map e_THeard r_1.1) rfl (List.length_map e_THeard).symm (map_nil_of hz_1) (gone rfl) (fr_map fun _ => rfl))) (.cons (avAs_free rfl) .nil)) (hsub_none (hsub_refl _)) rfl rfl (.inr rfl) ?_)
    refine un (a1 rfl ?_)
    refine gjoin 4 (d := 67) (v := (B (r_5 && ((r_1.2.1 == r_4.2.1) && true)))) (fun X hX => ?_) ?_
    · refine split2 (fun hc3 => ?_) (fun hc3 => ?_)
      · refine gt rfl (a1 rfl ?_)
        refine gt rfl (a1 rfl ?_)
        refine gt rfl (a1 (v := (B ((r_1.2.1 == r_4.2.1) && true))) rfl ?_)
        refine un (a1 (v := (B ((r_1.2.1 == r_4.2.1) && true))) rfl ?_)
        refine dnil ?_
        exact hX _ (.putEq (by rw [hc3]; rfl) (.skip _ _ (.skip _ _ (.skip _ _ (.putEq (by rw [hc3]) (.refl _)) rfl) rfl) rfl))
      · refine gs rfl rfl ?_
        refine gs rfl rfl ?_
        refine gs rfl rfl ?_
        refine un (a1 (v := (B false)) rfl ?_)
        refine dnil ?_
        exact hX _ (.putEq (by rw [hc3]; rfl) (.skip _ _ (.skip _ _ (.skip _ _ (.putEq (by rw [hc3]) (.refl _)) rfl) rfl) rfl))
    refine un (a1 rfl ?_)
    refine split2 (fun hc4 => ?_) (fun hc4 => ?_)
    · replace h := ifT hc4 h
      refine gt rfl (a1 rfl ?_)
      refine gt rfl (a1 rfl ?_)
      obtain ⟨r_6, hr7, h⟩ := bnd h
      refine gt rfl (ac_lend (h2 := (upd _ 4 none)) (slices_Equal_Listener_ok hr7) rfl (.cons (.c (lstC_ro (es := List.map e_TListener r_1.2.2.1) rfl (List.length_map e_TListener).symm (map_nil_of hz_2) (gone rfl) (fr_map fun _ => rfl))) (.cons (avAs_free rfl) .nil)) (hsub_none (hsub_refl _)) rfl rfl (.inr rfl) ?_)
      refine un (a1 (v := (B r_6)) rfl ?_)
      refine un (a1 rfl ?_)
      refine gjoin 4 (d := 77) (v := (B (r_6 && (decide (r_1.2.2.2 = r_4.2.2.2))))) (fun X hX => ?_) ?_
      · refine split2 (fun hc5 => ?_) (fun hc5 => ?_)
        · refine gt rfl (a1 rfl ?_)
          refine gt rfl (a1 rfl ?_)
          refine gt rfl (a1 (v := (B (decide (r_1.2.2.2 = r_4.2.2.2)))) rfl ?_)
          refine un (a1 (v := (B (decide (r_1.2.2.2 = r_4.2.2.2)))) rfl ?_)
          refine dnil ?_
          exact hX _ (.putEq (by rw [hc5]; rfl) (.skip _ _ (.skip _ _ (.skip _ _ (.putEq (by rw [hc5]) (.refl _)) rfl) rfl) rfl))
        · refine gs rfl rfl ?_
          refine gs rfl rfl ?_
          refine gs rfl rfl ?_
          refine un (a1 (v := (B false)) rfl ?_)
          refine dnil ?_
          exact hX _ (.putEq (by rw [hc5]; rfl) (.skip _ _ (.skip _ _ (.skip _ _ (.putEq (by rw [hc5]) (.refl _)) rfl) rfl) rfl))
      refine un (a1 rfl ?_)
      refine dnil ?_
      exact Sv.weak (weak_canon [] rfl (by decide) (by decide) (fun b h => absurd h (Nat.not_lt_zero _)) (.cons rfl (avAs_free rfl) .nil) .nil) (clerestorylaw4_EventSays_j1_ok h)
    · replace h := ifF hc4 h
      refine gs rfl rfl ?_
      refine gs rfl rfl ?_
      refine gs rfl rfl ?_
      refine un (a1 (v := (B false)) rfl ?_)
      refine un (a1 rfl ?_)
      refine gs rfl rfl ?_
      refine gs rfl rfl ?_
      refine gs rfl rfl ?_
      refine un (a1 (v := (B false)) rfl ?_)
      refine un (a1 rfl ?_)
      refine dnil ?_
      exact Sv.weak (weak_canon [] rfl (by decide) (by decide) (fun b h => absurd h (Nat.not_lt_zero _)) (.cons rfl (avAs_free rfl) .nil) .nil) (clerestorylaw4_EventSays_j1_ok h)
end Go.Proofs.YtoomjemboekooaaDoorBv
