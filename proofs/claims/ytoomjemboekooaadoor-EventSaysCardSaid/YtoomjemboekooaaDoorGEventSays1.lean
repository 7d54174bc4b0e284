/- Printed by a program of mine (bgen.py): plain functions, and the walks that show that the code comes to what they answer. -/
import Derived.Test.YtoomjemboekooaaDoorGEventSays0
namespace Go.Proofs.YtoomjemboekooaaDoorBv
open Go
set_option linter.unusedVariables false
set_option linter.unusedSimpArgs false
set_option maxRecDepth 100000
def a17_c0 : ACode := (.seq (.region [⟨(some 18), (.bin .lss (.tmp 17) (.tmp 16)), none⟩])
 (.seq (.cond (.tmp 18) .skip (.exit 0))
 (.seq (.block 1 (.seq (.region [⟨(some 19), (.mov (.tmp 17)), none⟩, ⟨(some 20), (.iaddr 1 (.tmp 15) (.tmp 17)), none⟩, ⟨(some 21), (.load false 1 (.tmp 20)), none⟩, ⟨(some 8), (.mov (.tmp 19)), none⟩, ⟨(some 9), (.mov (.tmp 21)), none⟩])
 (.region [⟨(some 22), (.mov (.tmp 7)), none⟩, ⟨(some 23), (.mov (.tmp 9)), none⟩, ⟨(some 24), (.mov (.tmp 6)), none⟩, ⟨(some 25), (.mov (.tmp 8)), none⟩, ⟨(some 26), (.callv (.tmp 24) [(.tmp 25), (.const (.c (.val (.int .i64 1))))]), none⟩, ⟨(some 27), (.build [(.val (.int .i64 0)), (.val (.int .i64 0)), (.val (.bool false))] [(0, (1, (.tmp 23))), (1, (1, (.tmp 26))), (2, (1, (.const (.c (.val (.bool true))))))]), none⟩, ⟨(some 28), (.bslice 3 [(.val (.int .i64 0)), (.val (.int .i64 0)), (.val (.bool false))] 1 [(0, (.tmp 27))]), none⟩, ⟨(some 29), (.app 3 24 (.tmp 22) (.tmp 28)), none⟩, ⟨(some 7), (.mov (.tmp 29)), none⟩])))
 (.region [⟨(some 30), (.bin .add (.tmp 17) (.const (.c (.val (.int .i64 1))))), none⟩, ⟨(some 17), (.mov (.tmp 30)), none⟩]))))
def a17_c1 : ACode := (.seq (.seq (.region [⟨(some 32), (.mov (.tmp 10)), none⟩, ⟨(some 33), (.bin .geq (.tmp 32) (.const (.c (.val (.int .i64 0))))), none⟩, ⟨(some 34), (.mov (.tmp 33)), none⟩, ⟨(some 35), (.mov (.tmp 1)), (some (34, true))⟩, ⟨(some 36), (.mov (.tmp 35)), (some (34, true))⟩, ⟨(some 37), (.mov (.tmp 10)), (some (36, false))⟩, ⟨(some 38), (.load false 1 (.tmp 5)), (some (36, false))⟩, ⟨(some 39), (.bin .eql (.tmp 37) (.tmp 38)), (some (36, false))⟩, ⟨(some 40), (.pick (.tmp 36) (.const (.c (.val (.bool true)))) (.tmp 39)), (some (34, true))⟩, ⟨(some 41), (.pick (.tmp 34) (.tmp 40) (.const (.c (.val (.bool false))))), none⟩])
 (.cond (.tmp 41) .skip (.exit 2)))
 (.seq (.block 3 (.drawn (.fin [(⟨(some 44), (.mov (.tmp 7)), none⟩, (0, 0)), (⟨(some 45), (.mov (.tmp 0)), none⟩, (0, 1)), (⟨(some 46), (.mov (.tmp 10)), none⟩, (0, 2)), (⟨(some 47), (.iaddr 1 (.tmp 45) (.tmp 46)), none⟩, (0, 3)), (⟨(some 48), (.load false 1 (.tmp 47)), none⟩, (0, 4)), (⟨(some 49), (.mov (.tmp 6)), none⟩, (0, 5)), (⟨(some 50), (.mov (.tmp 10)), none⟩, (0, 6)), (⟨(some 51), (.callv (.tmp 49) [(.tmp 50), (.const (.c (.val (.int .i64 3))))]), none⟩, (1, 7)), (⟨(some 52), (.build [(.val (.int .i64 0)), (.val (.int .i64 0)), (.val (.bool false))] [(0, (1, (.tmp 48))), (1, (1, (.tmp 51))), (2, (1, (.const (.c (.val (.bool false))))))]), none⟩, (0, 8)), (⟨(some 53), (.bslice 3 [(.val (.int .i64 0)), (.val (.int .i64 0)), (.val (.bool false))] 1 [(0, (.tmp 52))]), none⟩, (2, 9)), (⟨(some 54), (.app 3 24 (.tmp 44) (.tmp 53)), none⟩, (2, 10)), (⟨(some 7), (.mov (.tmp 54)), none⟩, (0, 11))])))
 (.region [⟨(some 42), (.mov (.tmp 10)), none⟩, ⟨(some 43), (.bin .sub (.tmp 42) (.const (.c (.val (.int .i64 1))))), none⟩, ⟨(some 10), (.mov (.tmp 43)), none⟩])))
def a17 : AFunc := ⟨2, [(.tmp 4)], (.seq (.region [⟨(some 4), (.mov (.const (.c (.ro true 3 [])))), none⟩])
 (.seq (.region [⟨(some 11), (.mov (.tmp 0)), none⟩, ⟨(some 12), (.len (.tmp 11)), none⟩, ⟨(some 13), (.bin .sub (.tmp 12) (.const (.c (.val (.int .i64 1))))), none⟩, ⟨(some 5), (.box (.const (.c (.val (.int .i64 0))))), none⟩, ⟨none, (.store 1 (.tmp 5) (.tmp 13)), none⟩])
 (.seq (.region [⟨(some 14), (.mkfn (.func 31) [] [(.tmp 5)]), none⟩, ⟨(some 6), (.mov (.tmp 14)), none⟩])
 (.seq (.region [⟨(some 7), (.mov (.const (.c (.ro true 3 [])))), none⟩])
 (.seq (.seq (.region [⟨(some 15), (.mov (.tmp 0)), none⟩, ⟨(some 16), (.len (.tmp 15)), none⟩, ⟨(some 17), (.mov (.const (.c (.val (.int .i64 0))))), none⟩])
 (.block 0 (.loop a17_c0)))
 (.seq (.seq (.region [⟨(some 31), (.load false 1 (.tmp 5)), none⟩, ⟨(some 10), (.mov (.tmp 31)), none⟩])
 (.block 2 (.loop a17_c1)))
 (.seq (.region [⟨(some 55), (.mov (.tmp 7)), none⟩, ⟨(some 4), (.mov (.tmp 55)), none⟩])
 .ret)))))))⟩
set_option maxRecDepth 100000 in
theorem c17 : compFunc Tryd.prog 17 = some a17 := by kernel_rfl
def event_steps_post (r : (List Tstep)) : AV → Heap → Nat → Prop := fun v h' n' => ∃ z0 : Bool, (z0 = true → r = []) ∧ v = (lstV z0 0 3 r.length) ∧ (h' = (upd (fun _ => none) 0 (lstB z0 3 (r.map e_Tstep)))) ∧ n' = 1
abbrev event_steps_l0_E0 (path : (List Int)) (bubbles : Bool) (F_ : (List Tstep) → Option (List Tstep)) (o : (List Tstep)) (R_ : St → Prop) : Prop := ∀ (out1 : (List Tstep)) (zout1 : Bool) (_ : zout1 = true → out1 = []), F_ out1 = some o → ∀ s, Weak 0 s ⟨(upd (upd (upd (upd (upd (fun _ => none) 0 (some (.c (.ro false 1 (path.map eI))))) 1 (some (B bubbles))) 5 (some (.c (.ref 0 1 0 0)))) 6 (some (.c (.fn (.func 31) [] [.ref 0 1 0 0])))) 7 (some (lstV zout1 1 3 out1.length))), (upd (upd (fun _ => none) 0 (some (.cells 1 [[cI (wi ((path.length : Int) - 1))]]))) 1 (lstB zout1 3 (out1.map e_Tstep))), 2⟩ → R_ s
abbrev event_steps_l0_I (path : (List Int)) (bubbles : Bool) (F_ : Nat → (List Tstep) → Int → Option (List Tstep)) (o : (List Tstep)) : Nat → St → Prop := fun k s => ∃ (out : (List Tstep)), ∃ (v17 : Int), ∃ (zout : Bool), (zout = true → out = []) ∧ F_ k out v17 = some o ∧ s = ⟨(upd (upd (upd (upd (upd (upd (upd (upd (fun _ => none) 0 (some (.c (.ro false 1 (path.map eI))))) 1 (some (B bubbles))) 5 (some (.c (.ref 0 1 0 0)))) 6 (some (.c (.fn (.func 31) [] [.ref 0 1 0 0])))) 7 (some (lstV zout 1 3 out.length))) 15 (some (.c (.ro false 1 (path.map eI))))) 16 (some (I (path.length : Int)))) 17 (some (I v17))), (upd (upd (fun _ => none) 0 (some (.cells 1 [[cI (wi ((path.length : Int) - 1))]]))) 1 (lstB zout 3 (out.map e_Tstep))), 2⟩
abbrev event_steps_l0_H (path : (List Int)) (bubbles : Bool) (F_ : (List Tstep) → Int → Option (List Tstep)) (o : (List Tstep)) (R_ : St → Prop) : Prop := ∀ (out : (List Tstep)) (v17 : Int) (zout : Bool) (_ : zout = true → out = []), F_ out v17 = some o → ∀ s, Weak 0 s ⟨(upd (upd (upd (upd (upd (upd (upd (upd (fun _ => none) 0 (some (.c (.ro false 1 (path.map eI))))) 1 (some (B bubbles))) 5 (some (.c (.ref 0 1 0 0)))) 6 (some (.c (.fn (.func 31) [] [.ref 0 1 0 0])))) 7 (some (lstV zout 1 3 out.length))) 15 (some (.c (.ro false 1 (path.map eI))))) 16 (some (I (path.length : Int)))) 17 (some (I v17))), (upd (upd (fun _ => none) 0 (some (.cells 1 [[cI (wi ((path.length : Int) - 1))]]))) 1 (lstB zout 3 (out.map e_Tstep))), 2⟩ → R_ s
noncomputable def event_steps_l0 (path : (List Int)) (bubbles : Bool) (K0_ : (List Tstep) → Option (List Tstep)) : Nat → (List Tstep) → Int → Option (List Tstep)
  | 0, _, _ => none
  | k + 1, out, v17 =>
    if decide (v17 < (path.length : Int)) then
      (at? path v17).bind fun x_ =>
      letIn [(⟨x_, (event_steps_fn1 v17 1 (wi ((path.length : Int) - 1))), true⟩ : Tstep)] fun row : List Tstep =>
      (app? 24 out row).bind fun r_ =>
      (event_steps_l0 path bubbles K0_ k) r_ (wi (v17 + 1))
    else
      K0_ out
theorem event_steps_l0_ok {mL : Int} {Q : AExit → St → Prop} {path : (List Int)} {bubbles : Bool} {K0_ : (List Tstep) → Option (List Tstep)} {k : Nat} {out : (List Tstep)} {v17 : Int} {zout : Bool} (hzout : zout = true → out = []) {o : (List Tstep)} (h : event_steps_l0 path bubbles K0_ k out v17 = some o)
    (hK0 : event_steps_l0_E0 path bubbles K0_ o (Q (.exit 0)))
    (hr : ∀ s, Ends a17.results 0 (event_steps_post o) .ret s → Q .ret s) :
    Sv Tryd.prog (GG mL) 0 (.loop a17_c0) Q ⟨(upd (upd (upd (upd (upd (upd (upd (upd (fun _ => none) 0 (some (.c (.ro false 1 (path.map eI))))) 1 (some (B bubbles))) 5 (some (.c (.ref 0 1 0 0)))) 6 (some (.c (.fn (.func 31) [] [.ref 0 1 0 0])))) 7 (some (lstV zout 1 3 out.length))) 15 (some (.c (.ro false 1 (path.map eI))))) 16 (some (I (path.length : Int)))) 17 (some (I v17))), (upd (upd (fun _ => none) 0 (some (.cells 1 [[cI (wi ((path.length : Int) - 1))]]))) 1 (lstB zout 3 (out.map e_Tstep))), 2⟩ := by
  refine Sv.loop (I := event_steps_l0_I path bubbles (event_steps_l0 path bubbles K0_) o) (fun k s hI => ?_) ⟨out, v17, zout, hzout, h, rfl⟩
  clear h
  clear hzout zout v17 out
  obtain ⟨out, v17, zout, hzout, h, rfl⟩ := hI
  cases k with
  | zero => cases h
  | succ k =>
  rw [event_steps_l0] at h
  have hself : event_steps_l0_H path bubbles (event_steps_l0 path bubbles K0_ k) o (rnd 0 (event_steps_l0_I path bubbles (event_steps_l0 path bubbles K0_) o) k Q) := fun out v17 zout hzout h s hw => ⟨_, k, hw, Nat.lt_succ_self k, out, v17, zout, hzout, h, rfl⟩
  refine Sv.seq ?_
  refine Sv.region ?_
  refine un (a1 (v := (B (decide (v17 < (path.length : Int))))) rfl ?_)
  refine dnil ?_
  refine Sv.seq ?_
  refine Sv.cond (b := decide (v17 < (path.length : Int))) rfl (fun hc1 => ?_) (fun hc1 => ?_)
  · replace h := ifT hc1 h
    refine Sv.skip ?_
    refine Sv.seq ?_
    refine Sv.block ?_
    refine Sv.seq ?_
    refine Sv.region ?_
    refine un (a1 rfl ?_)
    obtain ⟨x_, hx1, h⟩ := bnd h
    refine un (a1 (v := (.c (.rop [cI x_]))) (s_iaddr (e := eI) (xs := path) rfl rfl hx1) ?_)
    refine un (a1 (v := (I x_)) rfl ?_)
    refine un (a1 rfl ?_)
    refine un (a1 rfl ?_)
    refine dnil ?_
    refine Sv.region ?_
    refine un (a1 rfl ?_)
    refine un (a1 rfl ?_)
    refine un (a1 rfl ?_)
    refine un (a1 rfl ?_)
    refine un (acv_gen (bs := []) («as» := [(I v17), (I 1), (.c (.rop [cI (wi ((path.length : Int) - 1))]))]) (h2 := (upd _ 0 none)) (h1 := (fun _ => none)) rfl (by kernel_rfl) (event_steps_fn1_ok (mL := mL) v17 1 (wi ((path.length : Int) - 1))) rfl (.cons (avAs_free rfl) (.cons (avAs_free rfl) (.cons (.c (ref_ro rfl (gone rfl) (.cons (.same rfl) .nil) rfl)) .nil))) (hsub_none (hsub_refl _)) (.nil _) (fun _ => rfl) (by decide) (by decide) (.cons (avAs_free rfl) (.cons (avAs_free rfl) (.cons (avAs_free rfl) .nil))) .nil ?_)
    rintro _ _ _ hn ⟨rfl, rfl, rfl⟩
    refine ⟨.inr ⟨rfl, .nil⟩, (rem [] _), fun hbd => (m3_rem (in_nil _) (.nil) hbd), (I (event_steps_fn1 v17 1 (wi ((path.length : Int) - 1)))), 2, rfl, rfl, ?_⟩
    refine un (a1 (v := (.agg [cI x_, cI (event_steps_fn1 v17 1 (wi ((path.length : Int) - 1))), cB true])) rfl ?_)
    obtain ⟨row, hrow⟩ : ∃ row : List Tstep, row = [(⟨x_, (event_steps_fn1 v17 1 (wi ((path.length : Int) - 1))), true⟩ : Tstep)] := ⟨_, rfl⟩
    replace h := letAt hrow h
    refine un (a2v (v := (lstV false 2 3 row.length)) (h' := upd _ 2 (lstB false 3 (row.map e_Tstep))) (n' := 3) rfl (by rw [hrow]; rfl) (fun h => by cases h) ?_)
    clear hrow
    obtain ⟨r_, hr1, h⟩ := bnd h
    have hz1 : (zout && row.isEmpty) = true → r_ = [] := app_nil (z := zout) (ys := row) hzout hr1
    refine un (a2v rfl (s_app (xs := out) (ys := row) (e := e_Tstep) (z := zout) (b := 1) rfl rfl hzout rfl rfl (slc_lst rfl (List.length_map _).symm (map_nil_of (fun h => by cases h))) hr1) (fun h => by cases h) ?_)
    refine un (a1 rfl ?_)
    refine dnil ?_
    refine Sv.region ?_
    refine un (a1 (v := (I (wi (v17 + 1)))) rfl ?_)
    refine un (a1 rfl ?_)
    refine dnil ?_
    exact hself r_ (wi (v17 + 1)) (zout && row.isEmpty) hz1 h _ (weak_canon [0, 3] rfl (by decide) (by decide) (fun b h => absurd h (Nat.not_lt_zero _)) (.cons rfl (avAs_free rfl) (.cons rfl (avAs_free rfl) (.cons rfl (avAs_free rfl) (.cons rfl (.c (lstC_ren rfl (by decide))) (.cons rfl (.c (fn_as .nil (.cons (.ref rfl (by decide)) .nil))) (.cons rfl (.c (.ref rfl (by decide))) (.cons rfl (avAs_free rfl) (.cons rfl (avAs_free rfl) .nil)))))))) (.row (by decide) rfl (fr_map fun _ => rfl) (.box (by decide) rfl (blkAs_cells (.cons (.same rfl) .nil)) .nil)))
  · replace h := ifF hc1 h
    refine Sv.exit ?_
    exact hK0 out zout hzout h _ (weak_canon [0, 1] rfl (by decide) (by decide) (fun b h => absurd h (Nat.not_lt_zero _)) (.cons rfl (.c (lstC_ren rfl (by decide))) (.cons rfl (.c (fn_as .nil (.cons (.ref rfl (by decide)) .nil))) (.cons rfl (.c (.ref rfl (by decide))) (.cons rfl (avAs_free rfl) (.cons rfl (avAs_free rfl) .nil))))) (.row (by decide) rfl (fr_map fun _ => rfl) (.box (by decide) rfl (blkAs_cells (.cons (.same rfl) .nil)) .nil)))
abbrev event_steps_l1_E2 (F_ : (List Tstep) → Option (List Tstep)) (o : (List Tstep)) (R_ : St → Prop) : Prop := ∀ (out3 : (List Tstep)) (zout3 : Bool) (_ : zout3 = true → out3 = []), F_ out3 = some o → ∀ s, Weak 0 s ⟨(upd (fun _ => none) 7 (some (lstV zout3 0 3 out3.length))), (upd (fun _ => none) 0 (lstB zout3 3 (out3.map e_Tstep))), 1⟩ → R_ s
abbrev event_steps_l1_I (path : (List Int)) (bubbles : Bool) (F_ : Nat → (List Tstep) → Int → Option (List Tstep)) (o : (List Tstep)) : Nat → St → Prop := fun k s => ∃ (out2 : (List Tstep)), ∃ (k_ : Int), ∃ (zout2 : Bool), (zout2 = true → out2 = []) ∧ F_ k out2 k_ = some o ∧ s = ⟨(upd (upd (upd (upd (upd (upd (fun _ => none) 0 (some (.c (.ro false 1 (path.map eI))))) 1 (some (B bubbles))) 5 (some (.c (.ref 0 1 0 0)))) 6 (some (.c (.fn (.func 31) [] [.ref 0 1 0 0])))) 7 (some (lstV zout2 1 3 out2.length))) 10 (some (I k_))), (upd (upd (fun _ => none) 0 (some (.cells 1 [[cI (wi ((path.length : Int) - 1))]]))) 1 (lstB zout2 3 (out2.map e_Tstep))), 2⟩
abbrev event_steps_l1_H (path : (List Int)) (bubbles : Bool) (F_ : (List Tstep) → Int → Option (List Tstep)) (o : (List Tstep)) (R_ : St → Prop) : Prop := ∀ (out2 : (List Tstep)) (k_ : Int) (zout2 : Bool) (_ : zout2 = true → out2 = []), F_ out2 k_ = some o → ∀ s, Weak 0 s ⟨(upd (upd (upd (upd (upd (upd (fun _ => none) 0 (some (.c (.ro false 1 (path.map eI))))) 1 (some (B bubbles))) 5 (some (.c (.ref 0 1 0 0)))) 6 (some (.c (.fn (.func 31) [] [.ref 0 1 0 0])))) 7 (some (lstV zout2 1 3 out2.length))) 10 (some (I k_))), (upd (upd (fun _ => none) 0 (some (.cells 1 [[cI (wi ((path.length : Int) - 1))]]))) 1 (lstB zout2 3 (out2.map e_Tstep))), 2⟩ → R_ s
noncomputable def event_steps_l1 (bubbles : Bool) (path : (List Int)) (K2_ : (List Tstep) → Option (List Tstep)) : Nat → (List Tstep) → Int → Option (List Tstep)
  | 0, _, _ => none
  | k + 1, out2, k_ =>
    if ((decide (0 ≤ k_)) && (bubbles || (decide (k_ = (wi ((path.length : Int) - 1)))))) then
      (at? path k_).bind fun x_1 =>
      letIn [(⟨x_1, (event_steps_fn1 k_ 3 (wi ((path.length : Int) - 1))), false⟩ : Tstep)] fun row1 : List Tstep =>
      (app? 24 out2 row1).bind fun r_1 =>
      (event_steps_l1 bubbles path K2_ k) r_1 (wi (k_ - 1))
    else
      K2_ out2
theorem event_steps_l1_ok {mL : Int} {Q : AExit → St → Prop} {bubbles : Bool} {path : (List Int)} {K2_ : (List Tstep) → Option (List Tstep)} {k : Nat} {out2 : (List Tstep)} {k_ : Int} {zout2 : Bool} (hzout2 : zout2 = true → out2 = []) {o : (List Tstep)} (h : event_steps_l1 bubbles path K2_ k out2 k_ = some o)
    (hK2 : event_steps_l1_E2 K2_ o (Q (.exit 2)))
    (hr : ∀ s, Ends a17.results 0 (event_steps_post o) .ret s → Q .ret s) :
    Sv Tryd.prog (GG mL) 0 (.loop a17_c1) Q ⟨(upd (upd (upd (upd (upd (upd (fun _ => none) 0 (some (.c (.ro false 1 (path.map eI))))) 1 (some (B bubbles))) 5 (some (.c (.ref 0 1 0 0)))) 6 (some (.c (.fn (.func 31) [] [.ref 0 1 0 0])))) 7 (some (lstV zout2 1 3 out2.length))) 10 (some (I k_))), (upd (upd (fun _ => none) 0 (some (.cells 1 [[cI (wi ((path.length : Int) - 1))]]))) 1 (lstB zout2 3 (out2.map e_Tstep))), 2⟩ := by
  refine Sv.loop (I := event_steps_l1_I path bubbles (event_steps_l1 bubbles path K2_) o) (fun k s hI => ?_) ⟨out2, k_, zout2, hzout2, h, rfl⟩
  clear h
  clear hzout2 zout2 k_ out2
  obtain ⟨out2, k_, zout2, hzout2, h, rfl⟩ := hI
  cases k with
  | zero => cases h
  | succ k =>
  rw [event_steps_l1] at h
  have hself : event_steps_l1_H path bubbles (event_steps_l1 bubbles path K2_ k) o (rnd 0 (event_steps_l1_I path bubbles (event_steps_l1 bubbles path K2_) o) k Q) := fun out2 k_ zout2 hzout2 h s hw => ⟨_, k, hw, Nat.lt_succ_self k, out2, k_, zout2, hzout2, h, rfl⟩
  refine Sv.seq ?_
  refine Sv.seq ?_
  refine Sv.region ?_
  refine un (a1 rfl ?_)
  refine un (a1 (v := (B (decide (0 ≤ k_)))) rfl ?_)
  refine un (a1 rfl ?_)
  refine gjoin 7 (d := 41) (v := (B ((decide (0 ≤ k_)) && (bubbles || (decide (k_ = (wi ((path.length : Int) - 1)))))))) (fun X hX => ?_) ?_
  · refine split2 (fun hc3 => ?_) (fun hc3 => ?_)
    · refine gt rfl (a1 rfl ?_)
      refine gt rfl (a1 rfl ?_)
      refine gjoin 4 (d := 40) (v := (B (bubbles || (decide (k_ = (wi ((path.length : Int) - 1))))))) (fun X hX => ?_) ?_
      · refine split2 (fun hc2 => ?_) (fun hc2 => ?_)
        · refine gs rfl rfl ?_
          refine gs rfl rfl ?_
          refine gs rfl rfl ?_
          refine gt rfl (a1 (v := (B true)) rfl ?_)
          refine dnil ?_
          exact hX _ (.putEq (by rw [hc2]; rfl) (.skip _ _ (.skip _ _ (.skip _ _ (.putEq (by rw [hc2]) (.refl _)) rfl) rfl) rfl))
        · refine gt rfl (a1 rfl ?_)
          refine gt rfl (a1 (v := (I (wi ((path.length : Int) - 1)))) rfl ?_)
          refine gt rfl (a1 (v := (B (decide (k_ = (wi ((path.length : Int) - 1)))))) rfl ?_)
          refine gt rfl (a1 (v := (B (decide (k_ = (wi ((path.length : Int) - 1)))))) rfl ?_)
          refine dnil ?_
          exact hX _ (.putEq (by rw [hc2]; rfl) (.skip _ _ (.skip _ _ (.skip _ _ (.putEq (by rw [hc2]) (.refl _)) rfl) rfl) rfl))
      refine un (a1 (v := (B (bubbles || (decide (k_ = (wi ((path.length : Int) - 1))))))) rfl ?_)
      refine dnil ?_
      exact hX _ (.putEq (by rw [hc3]; rfl) (.skip _ _ (.skip _ _ (.skip _ _ (.putEq (by rw [hc3]) (.refl _)) rfl) rfl) rfl))
    · refine gs rfl rfl ?_
      refine gs rfl rfl ?_
      refine gu rfl ?_
      refine gu rfl ?_
      refine gu rfl ?_
      refine gs rfl rfl ?_
      refine un (a1 (v := (B false)) rfl ?_)
      refine dnil ?_
      exact hX _ (.putEq (by rw [hc3]; rfl) (.skip _ _ (.skip _ _ (.skip _ _ (.skip _ _ (.skip _ _ (.skip _ _ (.putEq (by rw [hc3]) (.refl _)) rfl) rfl) rfl) rfl) rfl) rfl))
  refine dnil ?_
  refine Sv.cond (b := ((decide (0 ≤ k_)) && (bubbles || (decide (k_ = (wi ((path.length : Int) - 1))))))) rfl (fun hc4 => ?_) (fun hc4 => ?_)
  · replace h := ifT hc4 h
    refine Sv.skip ?_
    refine Sv.seq ?_
    refine Sv.block ?_
    refine Sv.drawn ?_
    refine un (a1 rfl ?_)
    refine un (a1 rfl ?_)
    refine un (a1 rfl ?_)
    obtain ⟨x_1, hx2, h⟩ := bnd h
    refine un (a1 (v := (.c (.rop [cI x_1]))) (s_iaddr (e := eI) (xs := path) rfl rfl hx2) ?_)
    refine un (a1 (v := (I x_1)) rfl ?_)
    refine un (a1 rfl ?_)
    refine un (a1 rfl ?_)
    refine un (acv_gen (bs := []) («as» := [(I k_), (I 3), (.c (.rop [cI (wi ((path.length : Int) - 1))]))]) (h2 := (upd _ 0 none)) (h1 := (fun _ => none)) rfl (by kernel_rfl) (event_steps_fn1_ok (mL := mL) k_ 3 (wi ((path.length : Int) - 1))) rfl (.cons (avAs_free rfl) (.cons (avAs_free rfl) (.cons (.c (ref_ro rfl (gone rfl) (.cons (.same rfl) .nil) rfl)) .nil))) (hsub_none (hsub_refl _)) (.nil _) (fun _ => rfl) (by decide) (by decide) (.cons (avAs_free rfl) (.cons (avAs_free rfl) (.cons (avAs_free rfl) .nil))) .nil ?_)
    rintro _ _ _ hn ⟨rfl, rfl, rfl⟩
    refine ⟨.inr ⟨rfl, .nil⟩, (rem [] _), fun hbd => (m3_rem (in_nil _) (.nil) hbd), (I (event_steps_fn1 k_ 3 (wi ((path.length : Int) - 1)))), 2, rfl, rfl, ?_⟩
    refine un (a1 (v := (.agg [cI x_1, cI (event_steps_fn1 k_ 3 (wi ((path.length : Int) - 1))), cB false])) rfl ?_)
    obtain ⟨row1, hrow1⟩ : ∃ row1 : List Tstep, row1 = [(⟨x_1, (event_steps_fn1 k_ 3 (wi ((path.length : Int) - 1))), false⟩ : Tstep)] := ⟨_, rfl⟩
    replace h := letAt hrow1 h
    refine un (a2v (v := (lstV false 2 3 row1.length)) (h' := upd _ 2 (lstB false 3 (row1.map e_Tstep))) (n' := 3) rfl (by rw [hrow1]; rfl) (fun h => by cases h) ?_)
    clear hrow1
    obtain ⟨r_1, hr2, h⟩ := bnd h
    have hz2 : (zout2 && row1.isEmpty) = true → r_1 = [] := app_nil (z := zout2) (ys := row1) hzout2 hr2
    refine un (a2v rfl (s_app (xs := out2) (ys := row1) (e := e_Tstep) (z := zout2) (b := 1) rfl rfl hzout2 rfl rfl (slc_lst rfl (List.length_map _).symm (map_nil_of (fun h => by cases h))) hr2) (fun h => by cases h) ?_)
    refine un (a1 rfl ?_)
    refine dnil ?_
    refine Sv.region ?_
    refine un (a1 rfl ?_)
    refine un (a1 (v := (I (wi (k_ - 1)))) rfl ?_)
    refine un (a1 rfl ?_)
    refine dnil ?_
    exact hself r_1 (wi (k_ - 1)) (zout2 && row1.isEmpty) hz2 h _ (weak_canon [0, 3] rfl (by decide) (by decide) (fun b h => absurd h (Nat.not_lt_zero _)) (.cons rfl (avAs_free rfl) (.cons rfl (.c (lstC_ren rfl (by decide))) (.cons rfl (.c (fn_as .nil (.cons (.ref rfl (by decide)) .nil))) (.cons rfl (.c (.ref rfl (by decide))) (.cons rfl (avAs_free rfl) (.cons rfl (avAs_free rfl) .nil)))))) (.row (by decide) rfl (fr_map fun _ => rfl) (.box (by decide) rfl (blkAs_cells (.cons (.same rfl) .nil)) .nil)))
  · replace h := ifF hc4 h
    refine Sv.exit ?_
    exact hK2 out2 zout2 hzout2 h _ (weak_canon [1] rfl (by decide) (by decide) (fun b h => absurd h (Nat.not_lt_zero _)) (.cons rfl (.c (lstC_ren rfl (by decide))) .nil) (.row (by decide) rfl (fr_map fun _ => rfl) .nil))
/-- clerestory/event.steps -/
noncomputable def event_steps (path : (List Int)) (bubbles : Bool) : Option (List Tstep) :=
  lim fun kk1 => event_steps_l0 path bubbles (fun (out1 : (List Tstep)) => 
      lim fun kk => event_steps_l1 bubbles path (fun (out3 : (List Tstep)) => 
          some out3) kk out1 (wi ((path.length : Int) - 1))) kk1 ([] : List Tstep) 0
theorem event_steps_ok {mL : Int} {path : (List Int)} {bubbles : Bool} {r : (List Tstep)} (h : event_steps path bubbles = some r) : ACalls Tryd.prog (GG mL) 17 [(.c (.ro false 1 (path.map eI))), (B bubbles)] (fun _ => none) 0 (event_steps_post r) := by
  refine acalls_of_sv hmix c17 (R := event_steps_post r) ?_
  unfold event_steps at h
  refine Sv.seq ?_
  refine Sv.region ?_
  refine un (a1 rfl ?_)
  refine dnil ?_
  refine Sv.seq ?_
  refine Sv.region ?_
  refine un (a1 rfl ?_)
  refine un (a1 (v := (I (path.length : Int))) (s_len (e := eI) (xs := path) rfl) ?_)
  refine un (a1 (v := (I (wi ((path.length : Int) - 1)))) rfl ?_)
  refine un (a2v (v := (.c (.ref 0 1 0 0))) (h' := upd _ 0 (some (.cells 1 [[cI 0]]))) (n' := 1) rfl rfl (fun h => by cases h) ?_)
  refine un (a2n (h' := upd _ 0 (some (.cells 1 [[cI (wi ((path.length : Int) - 1))]]))) (n' := 1) rfl rfl (fun h => by cases h) ?_)
  refine dnil ?_
  refine Sv.seq ?_
  refine Sv.region ?_
  refine un (a1 (v := (.c (.fn (.func 31) [] [.ref 0 1 0 0]))) rfl ?_)
  refine un (a1 rfl ?_)
  refine dnil ?_
  refine Sv.seq ?_
  refine Sv.region ?_
  refine un (a1 rfl ?_)
  refine dnil ?_
  refine Sv.seq ?_
  refine Sv.seq ?_
  refine Sv.region ?_
  refine un (a1 rfl ?_)
  refine un (a1 (v := (I (path.length : Int))) (s_len (e := eI) (xs := path) rfl) ?_)
  refine un (a1 rfl ?_)
  refine dnil ?_
  refine Sv.block ?_
  obtain ⟨kk1, h⟩ := lim_some h
  refine Sv.weak (weak_canon [0, 1000] rfl (by decide) (by decide) (fun b h => absurd h (Nat.not_lt_zero _)) (.cons rfl (avAs_free rfl) (.cons rfl (avAs_free rfl) (.cons rfl (avAs_free rfl) (.cons rfl (.c (.same rfl)) (.cons rfl (.c (fn_as .nil (.cons (.ref rfl (by decide)) .nil))) (.cons rfl (.c (.ref rfl (by decide))) (.cons rfl (avAs_free rfl) (.cons rfl (avAs_free rfl) .nil)))))))) (.non (by decide) (.box (by decide) rfl (blkAs_cells (.cons (.same rfl) .nil)) .nil))) (event_steps_l0_ok (fun _ => rfl) h ?_ (fun s hs => hs))
  · intro out1 zout1 hzout1 h _ hw1
    refine Sv.weak hw1 ?_
    refine Sv.seq ?_
    refine Sv.seq ?_
    refine Sv.region ?_
    refine un (a1 (v := (I (wi ((path.length : Int) - 1)))) rfl ?_)
    refine un (a1 rfl ?_)
    refine dnil ?_
    refine Sv.block ?_
    obtain ⟨kk, h⟩ := lim_some h
    refine Sv.weak (weak_canon [0, 1] rfl (by decide) (by decide) (fun b h => absurd h (Nat.not_lt_zero _)) (.cons rfl (avAs_free rfl) (.cons rfl (.c (lstC_ren rfl (by decide))) (.cons rfl (.c (fn_as .nil (.cons (.ref rfl (by decide)) .nil))) (.cons rfl (.c (.ref rfl (by decide))) (.cons rfl (avAs_free rfl) (.cons rfl (avAs_free rfl) .nil)))))) (.row (by decide) rfl (fr_map fun _ => rfl) (.box (by decide) rfl (blkAs_cells (.cons (.same rfl) .nil)) .nil))) (event_steps_l1_ok hzout1 h ?_ (fun s hs => hs))
    · intro out3 zout3 hzout3 h _ hw2
      refine Sv.weak hw2 ?_
      refine Sv.seq ?_
      refine Sv.region ?_
      refine un (a1 rfl ?_)
      refine un (a1 rfl ?_)
      refine dnil ?_
      refine Sv.ret ?_
      replace h := Option.some.inj h
      subst h
      exact ⟨_, .refl _, _, rfl, ⟨upd (fun _ => none) 0 (some (lstV zout3 0 3 out3.length)), (upd (fun _ => none) 0 (lstB zout3 3 (out3.map e_Tstep))), 1⟩, (lstV zout3 0 3 out3.length), weak_canon2 [0] [0] (by decide) (by decide) (fun b h => absurd h (Nat.not_lt_zero _)) (.cons (by decide) .nil) (.cons rfl (.c (lstC_ren rfl (by decide))) .nil) (.row (by decide) rfl (fr_map fun _ => rfl) .nil), rfl, zout3, hzout3, rfl, rfl, rfl⟩
def a32 : AFunc := ⟨3, [], (.seq (.region [⟨(some 4), (.box (.tmp 1)), none⟩, ⟨(some 5), (.box (.tmp 2)), none⟩])
 (.seq (.drawn (.fin [(⟨(some 6), (.mov (.tmp 0)), none⟩, (0, 0)), (⟨(some 7), (.mov (.tmp 0)), none⟩, (0, 1)), (⟨(some 8), (.nilc (.tmp 7)), none⟩, (0, 2)), (⟨(some 9), (.faddr 8 (.tmp 8)), none⟩, (0, 3)), (⟨(some 10), (.load false 1 (.tmp 9)), none⟩, (0, 4)), (⟨(some 11), (.faddr 0 (.tmp 4)), none⟩, (0, 5)), (⟨(some 12), (.load false 1 (.tmp 11)), none⟩, (0, 6)), (⟨(some 13), (.faddr 0 (.tmp 5)), none⟩, (0, 7)), (⟨(some 14), (.load false 1 (.tmp 13)), none⟩, (0, 8)), (⟨(some 15), (.faddr 1 (.tmp 5)), none⟩, (0, 9)), (⟨(some 16), (.load false 1 (.tmp 15)), none⟩, (0, 10)), (⟨(some 17), (.build [(.val (.int .i64 0)), (.val (.int .i64 0)), (.val (.int .i64 0))] [(0, (1, (.tmp 12))), (1, (1, (.tmp 14))), (2, (1, (.tmp 16)))]), none⟩, (0, 11)), (⟨(some 18), (.bslice 3 [(.val (.int .i64 0)), (.val (.int .i64 0)), (.val (.int .i64 0))] 1 [(0, (.tmp 17))]), none⟩, (1, 12)), (⟨(some 19), (.app 3 24 (.tmp 10) (.tmp 18)), none⟩, (2, 13)), (⟨(some 20), (.nilc (.tmp 6)), none⟩, (0, 14)), (⟨(some 21), (.faddr 8 (.tmp 20)), none⟩, (0, 15)), (⟨none, (.store 1 (.tmp 21) (.tmp 19)), none⟩, (2, 16))]))
 (.seq (.region [⟨(some 22), (.mov (.tmp 0)), none⟩, ⟨(some 23), (.mov (.tmp 0)), none⟩, ⟨(some 24), (.nilc (.tmp 23)), none⟩, ⟨(some 25), (.faddr 10 (.tmp 24)), none⟩, ⟨(some 26), (.load false 1 (.tmp 25)), none⟩, ⟨(some 27), (.mov (.tmp 26)), none⟩, ⟨(some 28), (.faddr 5 (.tmp 4)), (some (27, false))⟩, ⟨(some 29), (.load false 1 (.tmp 28)), (some (27, false))⟩, ⟨(some 30), (.pick (.tmp 27) (.const (.c (.val (.bool true)))) (.tmp 29)), none⟩, ⟨(some 31), (.nilc (.tmp 22)), none⟩, ⟨(some 32), (.faddr 10 (.tmp 31)), none⟩, ⟨none, (.store 1 (.tmp 32) (.tmp 30)), none⟩])
 (.seq (.region [⟨(some 33), (.mov (.tmp 0)), none⟩, ⟨(some 34), (.mov (.tmp 0)), none⟩, ⟨(some 35), (.nilc (.tmp 34)), none⟩, ⟨(some 36), (.faddr 11 (.tmp 35)), none⟩, ⟨(some 37), (.load false 1 (.tmp 36)), none⟩, ⟨(some 38), (.mov (.tmp 37)), none⟩, ⟨(some 39), (.faddr 6 (.tmp 4)), (some (38, false))⟩, ⟨(some 40), (.load false 1 (.tmp 39)), (some (38, false))⟩, ⟨(some 41), (.pick (.tmp 38) (.const (.c (.val (.bool true)))) (.tmp 40)), none⟩, ⟨(some 42), (.nilc (.tmp 33)), none⟩, ⟨(some 43), (.faddr 11 (.tmp 42)), none⟩, ⟨none, (.store 1 (.tmp 43) (.tmp 41)), none⟩])
 (.seq (.region [⟨(some 44), (.mov (.tmp 0)), none⟩, ⟨(some 45), (.mov (.tmp 0)), none⟩, ⟨(some 46), (.nilc (.tmp 45)), none⟩, ⟨(some 47), (.faddr 12 (.tmp 46)), none⟩, ⟨(some 48), (.load false 1 (.tmp 47)), none⟩, ⟨(some 49), (.mov (.tmp 48)), none⟩, ⟨(some 50), (.faddr 7 (.tmp 4)), (some (49, false))⟩, ⟨(some 51), (.load false 1 (.tmp 50)), (some (49, false))⟩, ⟨(some 52), (.mov (.tmp 51)), (some (49, false))⟩, ⟨(some 53), (.mov (.tmp 0)), (some (52, true))⟩, ⟨(some 54), (.nilc (.tmp 53)), (some (52, true))⟩, ⟨(some 55), (.faddr 1 (.tmp 54)), (some (52, true))⟩, ⟨(some 56), (.faddr 6 (.tmp 55)), (some (52, true))⟩, ⟨(some 57), (.load false 1 (.tmp 56)), (some (52, true))⟩, ⟨(some 58), (.pick (.tmp 52) (.tmp 57) (.const (.c (.val (.bool false))))), (some (49, false))⟩, ⟨(some 59), (.pick (.tmp 49) (.const (.c (.val (.bool true)))) (.tmp 58)), none⟩, ⟨(some 60), (.nilc (.tmp 44)), none⟩, ⟨(some 61), (.faddr 12 (.tmp 60)), none⟩, ⟨none, (.store 1 (.tmp 61) (.tmp 59)), none⟩])
 (.seq (.region [⟨(some 62), (.faddr 4 (.tmp 4)), none⟩, ⟨(some 63), (.load false 1 (.tmp 62)), none⟩])
 (.cond (.tmp 63) (.drawn (.fin [(⟨(some 64), (.mov (.tmp 0)), none⟩, (0, 0)), (⟨(some 65), (.nilc (.tmp 64)), none⟩, (0, 1)), (⟨(some 66), (.faddr 9 (.tmp 65)), none⟩, (0, 2)), (⟨(some 67), (.load false 1 (.tmp 66)), none⟩, (0, 3)), (⟨(some 68), (.faddr 0 (.tmp 4)), none⟩, (0, 4)), (⟨(some 69), (.load false 1 (.tmp 68)), none⟩, (0, 5)), (⟨none, (.mput (.i .i64) (.tmp 67) (.tmp 69) (.const (.c (.val (.int .i64 1))))), none⟩, (2, 6))])) .skip)))))))⟩
set_option maxRecDepth 100000 in
theorem c32 : compFunc Tryd.prog 32 = some a32 := by kernel_rfl
def clerestory_event_sending_hear_post (r : Tsending) : AV → Heap → Nat → Prop := fun v h' n' => ∃ z0 : Bool, (z0 = true → r.f_heard = []) ∧ v = (.tup []) ∧ (h' = (upd (upd (upd (fun _ => none) 0 (some (.cells 13 [[.ro false 8 (r.f_l.map e_TListener), .str r.f_e.f_Type, cI r.f_e.Target, cI r.f_e.X, cI r.f_e.Y, .str r.f_e.Key, cB r.f_e.Bubbles, cB r.f_e.Cancels, lstC z0 3 3 r.f_heard.length, .mp 2, cB r.f_stops, cB r.f_all, cB r.f_no]]))) 2 (mapB (.i .i64) (fun x => cI x) (fun (x : Int) => (I x)) r.f_gone)) 3 (lstB z0 3 (r.f_heard.map e_THeard)))) ∧ n' = 4
/-- (*clerestory/event.sending).hear -/
noncomputable def clerestory_event_sending_hear (s_ : Tsending) (x_ : TListener) (at_ : Tstep) : Option Tsending :=
  (app? 24 s_.f_heard [(⟨x_.ID, at_.f_node, at_.f_phase⟩ : THeard)]).bind fun r_ =>
  if x_.Once then
    letIn (mset s_.f_gone x_.ID 1) fun mp : (List (Int × Int)) =>
    some (⟨s_.f_l, s_.f_e, r_, mp, (s_.f_stops || x_.Stops), (s_.f_all || x_.StopsAll), (s_.f_no || (x_.Prevents && s_.f_e.Cancels))⟩ : Tsending)
  else
    some (⟨s_.f_l, s_.f_e, r_, s_.f_gone, (s_.f_stops || x_.Stops), (s_.f_all || x_.StopsAll), (s_.f_no || (x_.Prevents && s_.f_e.Cancels))⟩ : Tsending)
theorem clerestory_event_sending_hear_ok {mL : Int} {s_ : Tsending} {x_ : TListener} {at_ : Tstep} {zs : Bool} (hzs : zs = true → s_.f_heard = []) {r : Tsending} (h : clerestory_event_sending_hear s_ x_ at_ = some r) : ACalls Tryd.prog (GG mL) 32 [(.c (.ref 0 13 0 0)), (.agg [cI x_.ID, cI x_.Node, .str x_.f_Type, cB x_.Capture, cB x_.Once, cB x_.Stops, cB x_.StopsAll, cB x_.Prevents]), (.agg [cI at_.f_node, cI at_.f_phase, cB at_.f_down])] (upd (upd (upd (fun _ => none) 0 (some (.cells 13 [[.ro false 8 (s_.f_l.map e_TListener), .str s_.f_e.f_Type, cI s_.f_e.Target, cI s_.f_e.X, cI s_.f_e.Y, .str s_.f_e.Key, cB s_.f_e.Bubbles, cB s_.f_e.Cancels, lstC zs 1 3 s_.f_heard.length, .mp 2, cB s_.f_stops, cB s_.f_all, cB s_.f_no]]))) 1 (lstB zs 3 (s_.f_heard.map e_THeard))) 2 (mapB (.i .i64) (fun x => cI x) (fun (x : Int) => (I x)) s_.f_gone)) 3 (clerestory_event_sending_hear_post r) := by
  refine acalls_of_sv hmix c32 (R := clerestory_event_sending_hear_post r) ?_
  unfold clerestory_event_sending_hear at h
  refine Sv.seq ?_
  refine Sv.region ?_
  refine un (a2v (v := (.c (.ref 3 8 0 0))) (h' := upd _ 3 (some (.cells 8 [[cI x_.ID, cI x_.Node, .str x_.f_Type, cB x_.Capture, cB x_.Once, cB x_.Stops, cB x_.StopsAll, cB x_.Prevents]]))) (n' := 4) rfl rfl (fun h => by cases h) ?_)
  refine un (a2v (v := (.c (.ref 4 3 0 0))) (h' := upd _ 4 (some (.cells 3 [[cI at_.f_node, cI at_.f_phase, cB at_.f_down]]))) (n' := 5) rfl rfl (fun h => by cases h) ?_)
  refine dnil ?_
  refine Sv.seq ?_
  refine Sv.drawn ?_
  refine un (a1 rfl ?_)
  refine un (a1 rfl ?_)
  refine un (a1 (v := (.c (.ref 0 13 0 0))) rfl ?_)
  refine un (a1 (v := (.c (.ref 0 13 0 8))) rfl ?_)
  refine un (a1 (v := (lstV zs 1 3 s_.f_heard.length)) rfl ?_)
  refine un (a1 (v := (.c (.ref 3 8 0 0))) rfl ?_)
  refine un (a1 (v := (I x_.ID)) rfl ?_)
  refine un (a1 (v := (.c (.ref 4 3 0 0))) rfl ?_)
  refine un (a1 (v := (I at_.f_node)) rfl ?_)
  refine un (a1 (v := (.c (.ref 4 3 0 1))) rfl ?_)
  refine un (a1 (v := (I at_.f_phase)) rfl ?_)
  refine un (a1 (v := (.agg [cI x_.ID, cI at_.f_node, cI at_.f_phase])) rfl ?_)
  refine un (a2v (v := (lstV false 5 3 [(⟨x_.ID, at_.f_node, at_.f_phase⟩ : THeard)].length)) (h' := upd _ 5 (lstB false 3 ([(⟨x_.ID, at_.f_node, at_.f_phase⟩ : THeard)].map e_THeard))) (n' := 6) rfl rfl (fun _ => rfl) ?_)
  obtain ⟨r_, hr1, h⟩ := bnd h
  have hz1 : (zs && [(⟨x_.ID, at_.f_node, at_.f_phase⟩ : THeard)].isEmpty) = true → r_ = [] := app_nil (z := zs) (ys := [(⟨x_.ID, at_.f_node, at_.f_phase⟩ : THeard)]) hzs hr1
  refine un (a2v rfl (s_app (xs := s_.f_heard) (ys := [(⟨x_.ID, at_.f_node, at_.f_phase⟩ : THeard)]) (e := e_THeard) (z := zs) (b := 1) rfl rfl hzs rfl rfl (slc_lst rfl (List.length_map _).symm (map_nil_of (fun h => by cases h))) hr1) (fun h => by cases h) ?_)
  refine un (a1 (v := (.c (.ref 0 13 0 0))) rfl ?_)
  refine un (a1 (v := (.c (.ref 0 13 0 8))) rfl ?_)
  refine un (a2n (h' := upd _ 0 (some (.cells 13 [[.ro false 8 (s_.f_l.map e_TListener), .str s_.f_e.f_Type, cI s_.f_e.Target, cI s_.f_e.X, cI s_.f_e.Y, .str s_.f_e.Key, cB s_.f_e.Bubbles, cB s_.f_e.Cancels, lstC (zs && [(⟨x_.ID, at_.f_node, at_.f_phase⟩ : THeard)].isEmpty) 6 3 r_.length, .mp 2, cB s_.f_stops, cB s_.f_all, cB s_.f_no]]))) (n' := 7) rfl rfl (fun h => by cases h) ?_)
  refine dnil ?_
  refine Sv.seq ?_
  refine Sv.region ?_
  refine un (a1 rfl ?_)
  refine un (a1 rfl ?_)
  refine un (a1 (v := (.c (.ref 0 13 0 0))) rfl ?_)
  refine un (a1 (v := (.c (.ref 0 13 0 10))) rfl ?_)
  refine un (a1 (v := (B s_.f_stops)) rfl ?_)
  refine un (a1 rfl ?_)
  refine gjoin 3 (d := 30) (v := (B (s_.f_stops || x_.Stops))) (fun X hX => ?_) ?_
  · refine split2 (fun hc1 => ?_) (fun hc1 => ?_)
    · refine gs rfl rfl ?_
      refine gs rfl rfl ?_
      refine un (a1 (v := (B true)) rfl ?_)
      refine dnil ?_
      exact hX _ (.putEq (by rw [hc1]; rfl) (.skip _ _ (.skip _ _ (.putEq (by rw [hc1]) (.refl _)) rfl) rfl))
    · refine gt rfl (a1 (v := (.c (.ref 3 8 0 5))) rfl ?_)
      refine gt rfl (a1 (v := (B x_.Stops)) rfl ?_)
      refine un (a1 (v := (B x_.Stops)) rfl ?_)
      refine dnil ?_
      exact hX _ (.putEq (by rw [hc1]; rfl) (.skip _ _ (.skip _ _ (.putEq (by rw [hc1]) (.refl _)) rfl) rfl))
  refine un (a1 (v := (.c (.ref 0 13 0 0))) rfl ?_)
  refine un (a1 (v := (.c (.ref 0 13 0 10))) rfl ?_)
  refine un (a2n (h' := upd _ 0 (some (.cells 13 [[.ro false 8 (s_.f_l.map e_TListener), .str s_.f_e.f_Type, cI s_.f_e.Target, cI s_.f_e.X, cI s_.f_e.Y, .str s_.f_e.Key, cB s_.f_e.Bubbles, cB s_.f_e.Cancels, lstC (zs && [(⟨x_.ID, at_.f_node, at_.f_phase⟩ : THeard)].isEmpty) 6 3 r_.length, .mp 2, cB (s_.f_stops || x_.Stops), cB s_.f_all, cB s_.f_no]]))) (n' := 7) rfl rfl (fun h => by cases h) ?_)
  refine dnil ?_
  refine Sv.seq ?_
  refine Sv.region ?_
  refine un (a1 rfl ?_)
  refine un (a1 rfl ?_)
  refine un (a1 (v := (.c (.ref 0 13 0 0))) rfl ?_)
  refine un (a1 (v := (.c (.ref 0 13 0 11))) rfl ?_)
  refine un (a1 (v := (B s_.f_all)) rfl ?_)
  refine un (a1 rfl ?_)
  refine gjoin 3 (d := 41) (v := (B (s_.f_all || x_.StopsAll))) (fun X hX => ?_) ?_
  · refine split2 (fun hc2 => ?_) (fun hc2 => ?_)
    · refine gs rfl rfl ?_
      refine gs rfl rfl ?_
      refine un (a1 (v := (B true)) rfl ?_)
      refine dnil ?_
      exact hX _ (.putEq (by rw [hc2]; rfl) (.skip _ _ (.skip _ _ (.putEq (by rw [hc2]) (.refl _)) rfl) rfl))
    · refine gt rfl (a1 (v := (.c (.ref 3 8 0 6))) rfl ?_)
      refine gt rfl (a1 (v := (B x_.StopsAll)) rfl ?_)
      refine un (a1 (v := (B x_.StopsAll)) rfl ?_)
      refine dnil ?_
      exact hX _ (.putEq (by rw [hc2]; rfl) (.skip _ _ (.skip _ _ (.putEq (by rw [hc2]) (.refl _)) rfl) rfl))
  refine un (a1 (v := (.c (.ref 0 13 0 0))) rfl ?_)
  refine un (a1 (v := (.c (.ref 0 13 0 11))) rfl ?_)
  refine un (a2n (h' := upd _ 0 (some (.cells 13 [[.ro false 8 (s_.f_l.map e_TListener), .str s_.f_e.f_Type, cI s_.f_e.Target, cI s_.f_e.X, cI s_.f_e.Y, .str s_.f_e.Key, cB s_.f_e.Bubbles, cB s_.f_e.Cancels, lstC (zs && [(⟨x_.ID, at_.f_node, at_.f_phase⟩ : THeard)].isEmpty) 6 3 r_.length, .mp 2, cB (s_.f_stops || x_.Stops), cB (s_.f_all || x_.StopsAll), cB s_.f_no]]))) (n' := 7) rfl rfl (fun h => by cases h) ?_)
  refine dnil ?_
  refine Sv.seq ?_
  refine Sv.region ?_
  refine un (a1 rfl ?_)
  refine un (a1 rfl ?_)
  refine un (a1 (v := (.c (.ref 0 13 0 0))) rfl ?_)
  refine un (a1 (v := (.c (.ref 0 13 0 12))) rfl ?_)
  refine un (a1 (v := (B s_.f_no)) rfl ?_)
  refine un (a1 rfl ?_)
  refine gjoin 10 (d := 59) (v := (B (s_.f_no || (x_.Prevents && s_.f_e.Cancels)))) (fun X hX => ?_) ?_
  · refine split2 (fun hc4 => ?_) (fun hc4 => ?_)
    · refine gs rfl rfl ?_
      refine gs rfl rfl ?_
      refine gs rfl rfl ?_
      refine gu rfl ?_
      refine gu rfl ?_
      refine gu rfl ?_
      refine gu rfl ?_
      refine gu rfl ?_
      refine gs rfl rfl ?_
      refine un (a1 (v := (B true)) rfl ?_)
      refine dnil ?_
      exact hX _ (.putEq (by rw [hc4]; rfl) (.skip _ _ (.skip _ _ (.skip _ _ (.skip _ _ (.skip _ _ (.skip _ _ (.skip _ _ (.skip _ _ (.skip _ _ (.putEq (by rw [hc4]) (.refl _)) rfl) rfl) rfl) rfl) rfl) rfl) rfl) rfl) rfl))
    · refine gt rfl (a1 (v := (.c (.ref 3 8 0 7))) rfl ?_)
      refine gt rfl (a1 (v := (B x_.Prevents)) rfl ?_)
      refine gt rfl (a1 rfl ?_)
      refine gjoin 6 (d := 58) (v := (B (x_.Prevents && s_.f_e.Cancels))) (fun X hX => ?_) ?_
      · refine split2 (fun hc3 => ?_) (fun hc3 => ?_)
        · refine gt rfl (a1 rfl ?_)
          refine gt rfl (a1 (v := (.c (.ref 0 13 0 0))) rfl ?_)
          refine gt rfl (a1 (v := (.c (.ref 0 13 0 1))) rfl ?_)
          refine gt rfl (a1 (v := (.c (.ref 0 13 0 7))) rfl ?_)
          refine gt rfl (a1 (v := (B s_.f_e.Cancels)) rfl ?_)
          refine gt rfl (a1 (v := (B s_.f_e.Cancels)) rfl ?_)
          refine dnil ?_
          exact hX _ (.putEq (by rw [hc3]; rfl) (.skip _ _ (.skip _ _ (.skip _ _ (.skip _ _ (.skip _ _ (.putEq (by rw [hc3]) (.refl _)) rfl) rfl) rfl) rfl) rfl))
        · refine gs rfl rfl ?_
          refine gs rfl rfl ?_
          refine gs rfl rfl ?_
          refine gs rfl rfl ?_
          refine gs rfl rfl ?_
          refine gt rfl (a1 (v := (B false)) rfl ?_)
          refine dnil ?_
          exact hX _ (.putEq (by rw [hc3]; rfl) (.skip _ _ (.skip _ _ (.skip _ _ (.skip _ _ (.skip _ _ (.putEq (by rw [hc3]) (.refl _)) rfl) rfl) rfl) rfl) rfl))
      refine un (a1 (v := (B (x_.Prevents && s_.f_e.Cancels))) rfl ?_)
      refine dnil ?_
      exact hX _ (.putEq (by rw [hc4]; rfl) (.skip _ _ (.skip _ _ (.skip _ _ (.skip _ _ (.putEq (by rw [hc4]) (.refl _)) rfl) rfl) rfl) rfl))
  refine un (a1 (v := (.c (.ref 0 13 0 0))) rfl ?_)
  refine un (a1 (v := (.c (.ref 0 13 0 12))) rfl ?_)
  refine un (a2n (h' := upd _ 0 (some (.cells 13 [[.ro false 8 (s_.f_l.map e_TListener), .str s_.f_e.f_Type, cI s_.f_e.Target, cI s_.f_e.X, cI s_.f_e.Y, .str s_.f_e.Key, cB s_.f_e.Bubbles, cB s_.f_e.Cancels, lstC (zs && [(⟨x_.ID, at_.f_node, at_.f_phase⟩ : THeard)].isEmpty) 6 3 r_.length, .mp 2, cB (s_.f_stops || x_.Stops), cB (s_.f_all || x_.StopsAll), cB (s_.f_no || (x_.Prevents && s_.f_e.Cancels))]]))) (n' := 7) rfl rfl (fun h => by cases h) ?_)
  refine dnil ?_
  refine Sv.seq ?_
  refine Sv.region ?_
  refine un (a1 (v := (.c (.ref 3 8 0 4))) rfl ?_)
  refine un (a1 (v := (B x_.Once)) rfl ?_)
  refine dnil ?_
  refine Sv.cond (b := x_.Once) rfl (fun hc5 => ?_) (fun hc5 => ?_)
  · replace h := ifT hc5 h
    refine Sv.drawn ?_
    refine un (a1 rfl ?_)
    refine un (a1 (v := (.c (.ref 0 13 0 0))) rfl ?_)
    refine un (a1 (v := (.c (.ref 0 13 0 9))) rfl ?_)
    refine un (a1 (v := (.c (.mp 2))) rfl ?_)
    refine un (a1 (v := (.c (.ref 3 8 0 0))) rfl ?_)
    refine un (a1 (v := (I x_.ID)) rfl ?_)
    obtain ⟨mp, hmp⟩ : ∃ mp : (List (Int × Int)), mp = (mset s_.f_gone x_.ID 1) := ⟨_, rfl⟩
    replace h := letAt hmp h
    refine un (a2n (h' := upd _ 2 (mapB (.i .i64) (fun x => cI x) (fun (x : Int) => (I x)) mp)) (n' := 7) rfl (by rw [hmp]; exact s_mput (ek := (fun x => cI x)) (ev := (fun (x : Int) => (I x))) (l := s_.f_gone) (key := x_.ID) (val := 1) (fun _ _ => rfl) rfl rfl rfl rfl rfl rfl) (fun h => by cases h) ?_)
    clear hmp
    refine dnil ?_
    replace h := Option.some.inj h
    subst h
    exact ⟨_, .refl _, _, rfl, ⟨upd (fun _ => none) 0 (some (.tup [])), (upd (upd (upd (fun _ => none) 0 (some (.cells 13 [[.ro false 8 (s_.f_l.map e_TListener), .str s_.f_e.f_Type, cI s_.f_e.Target, cI s_.f_e.X, cI s_.f_e.Y, .str s_.f_e.Key, cB s_.f_e.Bubbles, cB s_.f_e.Cancels, lstC (zs && [(⟨x_.ID, at_.f_node, at_.f_phase⟩ : THeard)].isEmpty) 3 3 r_.length, .mp 2, cB (s_.f_stops || x_.Stops), cB (s_.f_all || x_.StopsAll), cB (s_.f_no || (x_.Prevents && s_.f_e.Cancels))]]))) 2 (mapB (.i .i64) (fun x => cI x) (fun (x : Int) => (I x)) mp)) 3 (lstB (zs && [(⟨x_.ID, at_.f_node, at_.f_phase⟩ : THeard)].isEmpty) 3 (r_.map e_THeard))), 4⟩, (.tup []), weak_canon2 [0, 1, 2, 6] [0, 2, 3] (by decide) (by decide) (by decide) (.cons (by decide) (.cons (by decide) (.cons (by decide) .nil))) (.cons rfl (avAs_tup .nil) .nil) (.row (by decide) rfl (fr_map fun _ => rfl) (.box (by decide) rfl .map (.box (by decide) rfl (blkAs_cells (.cons (.same rfl) (.cons (.same rfl) (.cons (.same rfl) (.cons (.same rfl) (.cons (.same rfl) (.cons (.same rfl) (.cons (.same rfl) (.cons (.same rfl) (.cons (lstC_ren rfl (by decide)) (.cons (.mp rfl (by decide)) (.cons (.same rfl) (.cons (.same rfl) (.cons (.same rfl) .nil)))))))))))))) .nil))), rfl, (zs && [(⟨x_.ID, at_.f_node, at_.f_phase⟩ : THeard)].isEmpty), hz1, rfl, rfl, rfl⟩
  · replace h := ifF hc5 h
    refine Sv.skip ?_
    replace h := Option.some.inj h
    subst h
    exact ⟨_, .refl _, _, rfl, ⟨upd (fun _ => none) 0 (some (.tup [])), (upd (upd (upd (fun _ => none) 0 (some (.cells 13 [[.ro false 8 (s_.f_l.map e_TListener), .str s_.f_e.f_Type, cI s_.f_e.Target, cI s_.f_e.X, cI s_.f_e.Y, .str s_.f_e.Key, cB s_.f_e.Bubbles, cB s_.f_e.Cancels, lstC (zs && [(⟨x_.ID, at_.f_node, at_.f_phase⟩ : THeard)].isEmpty) 3 3 r_.length, .mp 2, cB (s_.f_stops || x_.Stops), cB (s_.f_all || x_.StopsAll), cB (s_.f_no || (x_.Prevents && s_.f_e.Cancels))]]))) 2 (mapB (.i .i64) (fun x => cI x) (fun (x : Int) => (I x)) s_.f_gone)) 3 (lstB (zs && [(⟨x_.ID, at_.f_node, at_.f_phase⟩ : THeard)].isEmpty) 3 (r_.map e_THeard))), 4⟩, (.tup []), weak_canon2 [0, 1, 2, 6] [0, 2, 3] (by decide) (by decide) (by decide) (.cons (by decide) (.cons (by decide) (.cons (by decide) .nil))) (.cons rfl (avAs_tup .nil) .nil) (.row (by decide) rfl (fr_map fun _ => rfl) (.box (by decide) rfl .map (.box (by decide) rfl (blkAs_cells (.cons (.same rfl) (.cons (.same rfl) (.cons (.same rfl) (.cons (.same rfl) (.cons (.same rfl) (.cons (.same rfl) (.cons (.same rfl) (.cons (.same rfl) (.cons (lstC_ren rfl (by decide)) (.cons (.mp rfl (by decide)) (.cons (.same rfl) (.cons (.same rfl) (.cons (.same rfl) .nil)))))))))))))) .nil))), rfl, (zs && [(⟨x_.ID, at_.f_node, at_.f_phase⟩ : THeard)].isEmpty), hz1, rfl, rfl, rfl⟩
def a18_c0 : ACode := (.region [⟨(some 48), (.bin .add (.tmp 11) (.const (.c (.val (.int .i64 1))))), none⟩, ⟨(some 11), (.mov (.tmp 48)), none⟩])
def a18_c1 : ACode := (.seq (.region [⟨(some 12), (.bin .lss (.tmp 11) (.tmp 10)), none⟩])
 (.seq (.cond (.tmp 12) .skip (.exit 0))
 (.seq (.block 1 (.seq (.region [⟨(some 13), (.iaddr 8 (.tmp 9) (.tmp 11)), none⟩, ⟨(some 14), (.load true 8 (.tmp 13)), none⟩, ⟨(some 5), (.box (.const (.agg [(.val (.int .i64 0)), (.val (.int .i64 0)), (.str []), (.val (.bool false)), (.val (.bool false)), (.val (.bool false)), (.val (.bool false)), (.val (.bool false))]))), none⟩, ⟨none, (.store 8 (.tmp 5) (.tmp 14)), none⟩])
 (.seq (.drawn (.fin [(⟨(some 15), (.mov (.tmp 0)), none⟩, (0, 0)), (⟨(some 16), (.nilc (.tmp 15)), none⟩, (0, 1)), (⟨(some 17), (.faddr 11 (.tmp 16)), none⟩, (0, 2)), (⟨(some 18), (.load false 1 (.tmp 17)), none⟩, (0, 3)), (⟨(some 19), (.un .not (.tmp 18)), none⟩, (0, 4)), (⟨(some 20), (.mov (.tmp 19)), none⟩, (0, 5)), (⟨(some 21), (.faddr 1 (.tmp 5)), (some (20, true))⟩, (0, 6)), (⟨(some 22), (.load false 1 (.tmp 21)), (some (20, true))⟩, (0, 7)), (⟨(some 23), (.faddr 0 (.tmp 3)), (some (20, true))⟩, (0, 8)), (⟨(some 24), (.load false 1 (.tmp 23)), (some (20, true))⟩, (0, 9)), (⟨(some 25), (.bin .eql (.tmp 22) (.tmp 24)), (some (20, true))⟩, (0, 10)), (⟨(some 26), (.pick (.tmp 20) (.tmp 25) (.const (.c (.val (.bool false))))), none⟩, (0, 11)), (⟨(some 27), (.mov (.tmp 26)), none⟩, (0, 12)), (⟨(some 28), (.faddr 2 (.tmp 5)), (some (27, true))⟩, (0, 13)), (⟨(some 29), (.load false 1 (.tmp 28)), (some (27, true))⟩, (0, 14)), (⟨(some 30), (.mov (.tmp 0)), (some (27, true))⟩, (0, 15)), (⟨(some 31), (.nilc (.tmp 30)), (some (27, true))⟩, (0, 16)), (⟨(some 32), (.faddr 1 (.tmp 31)), (some (27, true))⟩, (0, 17)), (⟨(some 33), (.faddr 0 (.tmp 32)), (some (27, true))⟩, (0, 18)), (⟨(some 34), (.load false 1 (.tmp 33)), (some (27, true))⟩, (0, 19)), (⟨(some 35), (.bin .eql (.tmp 29) (.tmp 34)), (some (27, true))⟩, (0, 20)), (⟨(some 36), (.pick (.tmp 27) (.tmp 35) (.const (.c (.val (.bool false))))), none⟩, (0, 21)), (⟨(some 37), (.mov (.tmp 36)), none⟩, (0, 22)), (⟨(some 38), (.faddr 3 (.tmp 5)), (some (37, true))⟩, (0, 23)), (⟨(some 39), (.load false 1 (.tmp 38)), (some (37, true))⟩, (0, 24)), (⟨(some 40), (.faddr 2 (.tmp 3)), (some (37, true))⟩, (0, 25)), (⟨(some 41), (.load false 1 (.tmp 40)), (some (37, true))⟩, (0, 26)), (⟨(some 42), (.eqs false false [.b] (.tmp 39) (.tmp 41)), (some (37, true))⟩, (0, 27)), (⟨(some 43), (.pick (.tmp 37) (.tmp 42) (.const (.c (.val (.bool false))))), none⟩, (0, 28))]))
 (.cond (.tmp 43) (.region [⟨(some 44), (.mov (.tmp 0)), none⟩, ⟨(some 45), (.load true 8 (.tmp 5)), none⟩, ⟨(some 46), (.load true 3 (.tmp 3)), none⟩, ⟨(some 47), (.call 32 [(.tmp 44), (.tmp 45), (.tmp 46)]), none⟩]) .skip))))
 a18_c0)))
def a18 : AFunc := ⟨2, [], (.seq (.region [⟨(some 3), (.box (.tmp 1)), none⟩])
 (.seq (.region [⟨(some 6), (.mov (.tmp 0)), none⟩, ⟨(some 7), (.nilc (.tmp 6)), none⟩, ⟨(some 8), (.faddr 0 (.tmp 7)), none⟩, ⟨(some 9), (.load false 1 (.tmp 8)), none⟩, ⟨(some 10), (.len (.tmp 9)), none⟩, ⟨(some 11), (.mov (.const (.c (.val (.int .i64 0))))), none⟩])
 (.block 0 (.loop a18_c1))))⟩
set_option maxRecDepth 100000 in
theorem c18 : compFunc Tryd.prog 18 = some a18 := by kernel_rfl
def clerestory_event_sending_do_post (r : Tsending) : AV → Heap → Nat → Prop := fun v h' n' => ∃ z0 : Bool, (z0 = true → r.f_heard = []) ∧ v = (.tup []) ∧ (h' = (upd (upd (upd (fun _ => none) 0 (some (.cells 13 [[.ro false 8 (r.f_l.map e_TListener), .str r.f_e.f_Type, cI r.f_e.Target, cI r.f_e.X, cI r.f_e.Y, .str r.f_e.Key, cB r.f_e.Bubbles, cB r.f_e.Cancels, lstC z0 3 3 r.f_heard.length, .mp 2, cB r.f_stops, cB r.f_all, cB r.f_no]]))) 2 (mapB (.i .i64) (fun x => cI x) (fun (x : Int) => (I x)) r.f_gone)) 3 (lstB z0 3 (r.f_heard.map e_THeard)))) ∧ n' = 4
abbrev clerestory_event_sending_do_l0_H (s_ : Tsending) (at_ : Tstep) (F_ : (List TListener) → (List UInt8) → Int → Int → Int → (List UInt8) → Bool → Bool → (List THeard) → (List (Int × Int)) → Bool → Bool → Bool → Int → Option Tsending) (o : Tsending) (R_ : St → Prop) : Prop := ∀ (s0 : (List TListener)) (s1 : (List UInt8)) (s2 : Int) (s3 : Int) (s4 : Int) (s5 : (List UInt8)) (s6 : Bool) (s7 : Bool) (s8 : (List THeard)) (s9 : (List (Int × Int))) (s10 : Bool) (s11 : Bool) (s12 : Bool) (v11 : Int) (zs8 : Bool) (_ : zs8 = true → s8 = []), F_ s0 s1 s2 s3 s4 s5 s6 s7 s8 s9 s10 s11 s12 v11 = some o → ∀ s, Weak 3 s ⟨(upd (upd (upd (upd (upd (fun _ => none) 0 (some (.c (.ref 0 13 0 0)))) 3 (some (.c (.ref 4 3 0 0)))) 9 (some (.c (.ro false 8 (s_.f_l.map e_TListener))))) 10 (some (I (s_.f_l.length : Int)))) 11 (some (I v11))), (upd (upd (upd (upd (fun _ => none) 0 (some (.cells 13 [[.ro false 8 (s0.map e_TListener), .str s1, cI s2, cI s3, cI s4, .str s5, cB s6, cB s7, lstC zs8 3 3 s8.length, .mp 2, cB s10, cB s11, cB s12]]))) 2 (mapB (.i .i64) (fun x => cI x) (fun (x : Int) => (I x)) s9)) 3 (lstB zs8 3 (s8.map e_THeard))) 4 (some (.cells 3 [[cI at_.f_node, cI at_.f_phase, cB at_.f_down]]))), 5⟩ → R_ s
abbrev clerestory_event_sending_do_l0_E0 (F_ : (List TListener) → (List UInt8) → Int → Int → Int → (List UInt8) → Bool → Bool → (List THeard) → (List (Int × Int)) → Bool → Bool → Bool → Option Tsending) (o : Tsending) (R_ : St → Prop) : Prop := ∀ (s01 : (List TListener)) (s13 : (List UInt8)) (s21 : Int) (s31 : Int) (s41 : Int) (s51 : (List UInt8)) (s61 : Bool) (s71 : Bool) (s81 : (List THeard)) (s91 : (List (Int × Int))) (s101 : Bool) (s111 : Bool) (s121 : Bool) (zs81 : Bool) (_ : zs81 = true → s81 = []), F_ s01 s13 s21 s31 s41 s51 s61 s71 s81 s91 s101 s111 s121 = some o → ∀ s, Weak 3 s ⟨(upd (fun _ => none) 0 (some (.c (.ref 0 13 0 0)))), (upd (upd (upd (fun _ => none) 0 (some (.cells 13 [[.ro false 8 (s01.map e_TListener), .str s13, cI s21, cI s31, cI s41, .str s51, cB s61, cB s71, lstC zs81 3 3 s81.length, .mp 2, cB s101, cB s111, cB s121]]))) 2 (mapB (.i .i64) (fun x => cI x) (fun (x : Int) => (I x)) s91)) 3 (lstB zs81 3 (s81.map e_THeard))), 4⟩ → R_ s
noncomputable def clerestory_event_sending_do_j2 (v11 : Int) (s_ : Tsending) (at_ : Tstep) (self : (List TListener) → (List UInt8) → Int → Int → Int → (List UInt8) → Bool → Bool → (List THeard) → (List (Int × Int)) → Bool → Bool → Bool → Int → Option Tsending) (K0_ : (List TListener) → (List UInt8) → Int → Int → Int → (List UInt8) → Bool → Bool → (List THeard) → (List (Int × Int)) → Bool → Bool → Bool → Option Tsending) (s02 : (List TListener)) (s14 : (List UInt8)) (s22 : Int) (s32 : Int) (s42 : Int) (s52 : (List UInt8)) (s62 : Bool) (s72 : Bool) (s82 : (List THeard)) (s92 : (List (Int × Int))) (s102 : Bool) (s112 : Bool) (s122 : Bool) : Option Tsending :=
  self s02 s14 s22 s32 s42 s52 s62 s72 s82 s92 s102 s112 s122 (wi (v11 + 1))
theorem clerestory_event_sending_do_j2_ok {mL : Int} {Q : AExit → St → Prop} {v11 : Int} {s_ : Tsending} {at_ : Tstep} {self : (List TListener) → (List UInt8) → Int → Int → Int → (List UInt8) → Bool → Bool → (List THeard) → (List (Int × Int)) → Bool → Bool → Bool → Int → Option Tsending} {K0_ : (List TListener) → (List UInt8) → Int → Int → Int → (List UInt8) → Bool → Bool → (List THeard) → (List (Int × Int)) → Bool → Bool → Bool → Option Tsending} {s02 : (List TListener)} {s14 : (List UInt8)} {s22 : Int} {s32 : Int} {s42 : Int} {s52 : (List UInt8)} {s62 : Bool} {s72 : Bool} {s82 : (List THeard)} {s92 : (List (Int × Int))} {s102 : Bool} {s112 : Bool} {s122 : Bool} {zs82 : Bool} (hzs82 : zs82 = true → s82 = []) {o : Tsending} (h : clerestory_event_sending_do_j2 v11 s_ at_ self K0_ s02 s14 s22 s32 s42 s52 s62 s72 s82 s92 s102 s112 s122 = some o)
    (hself : clerestory_event_sending_do_l0_H s_ at_ self o (Q .normal))
    (hK0 : clerestory_event_sending_do_l0_E0 K0_ o (Q (.exit 0)))
    (hr : ∀ s, Ends a18.results 3 (clerestory_event_sending_do_post o) .ret s → Q .ret s) :
    Sv Tryd.prog (GG mL) 3 a18_c0 Q ⟨(upd (upd (upd (upd (upd (fun _ => none) 0 (some (.c (.ref 0 13 0 0)))) 3 (some (.c (.ref 4 3 0 0)))) 9 (some (.c (.ro false 8 (s_.f_l.map e_TListener))))) 10 (some (I (s_.f_l.length : Int)))) 11 (some (I v11))), (upd (upd (upd (upd (fun _ => none) 0 (some (.cells 13 [[.ro false 8 (s02.map e_TListener), .str s14, cI s22, cI s32, cI s42, .str s52, cB s62, cB s72, lstC zs82 3 3 s82.length, .mp 2, cB s102, cB s112, cB s122]]))) 2 (mapB (.i .i64) (fun x => cI x) (fun (x : Int) => (I x)) s92)) 3 (lstB zs82 3 (s82.map e_THeard))) 4 (some (.cells 3 [[cI at_.f_node, cI at_.f_phase, cB at_.f_down]]))), 5⟩ := by
  unfold clerestory_event_sending_do_j2 at h
  refine Sv.region ?_
  refine un (a1 (v := (I (wi (v11 + 1)))) rfl ?_)
  refine un (a1 rfl ?_)
  refine dnil ?_
  exact hself s02 s14 s22 s32 s42 s52 s62 s72 s82 s92 s102 s112 s122 (wi (v11 + 1)) zs82 hzs82 h _ (weak_canon [0, 1, 2, 3, 4] rfl (by decide) (by decide) (by decide) (.cons rfl (avAs_free rfl) (.cons rfl (avAs_free rfl) (.cons rfl (avAs_free rfl) (.cons rfl (.c (.ref rfl (by decide))) (.cons rfl (.c (.ref rfl (by decide))) .nil))))) (.box (by decide) rfl (blkAs_cells (.cons (.same rfl) (.cons (.same rfl) (.cons (.same rfl) .nil)))) (.row (by decide) rfl (fr_map fun _ => rfl) (.box (by decide) rfl .map (.box (by decide) rfl (blkAs_cells (.cons (.same rfl) (.cons (.same rfl) (.cons (.same rfl) (.cons (.same rfl) (.cons (.same rfl) (.cons (.same rfl) (.cons (.same rfl) (.cons (.same rfl) (.cons (lstC_ren rfl (by decide)) (.cons (.mp rfl (by decide)) (.cons (.same rfl) (.cons (.same rfl) (.cons (.same rfl) .nil)))))))))))))) .nil)))))
abbrev clerestory_event_sending_do_l0_I (s_ : Tsending) (at_ : Tstep) (F_ : Nat → (List TListener) → (List UInt8) → Int → Int → Int → (List UInt8) → Bool → Bool → (List THeard) → (List (Int × Int)) → Bool → Bool → Bool → Int → Option Tsending) (o : Tsending) : Nat → St → Prop := fun k s => ∃ (s0 : (List TListener)), ∃ (s1 : (List UInt8)), ∃ (s2 : Int), ∃ (s3 : Int), ∃ (s4 : Int), ∃ (s5 : (List UInt8)), ∃ (s6 : Bool), ∃ (s7 : Bool), ∃ (s8 : (List THeard)), ∃ (s9 : (List (Int × Int))), ∃ (s10 : Bool), ∃ (s11 : Bool), ∃ (s12 : Bool), ∃ (v11 : Int), ∃ (zs8 : Bool), (zs8 = true → s8 = []) ∧ F_ k s0 s1 s2 s3 s4 s5 s6 s7 s8 s9 s10 s11 s12 v11 = some o ∧ s = ⟨(upd (upd (upd (upd (upd (fun _ => none) 0 (some (.c (.ref 0 13 0 0)))) 3 (some (.c (.ref 4 3 0 0)))) 9 (some (.c (.ro false 8 (s_.f_l.map e_TListener))))) 10 (some (I (s_.f_l.length : Int)))) 11 (some (I v11))), (upd (upd (upd (upd (fun _ => none) 0 (some (.cells 13 [[.ro false 8 (s0.map e_TListener), .str s1, cI s2, cI s3, cI s4, .str s5, cB s6, cB s7, lstC zs8 3 3 s8.length, .mp 2, cB s10, cB s11, cB s12]]))) 2 (mapB (.i .i64) (fun x => cI x) (fun (x : Int) => (I x)) s9)) 3 (lstB zs8 3 (s8.map e_THeard))) 4 (some (.cells 3 [[cI at_.f_node, cI at_.f_phase, cB at_.f_down]]))), 5⟩
noncomputable def clerestory_event_sending_do_l0 (s_ : Tsending) (at_ : Tstep) (K0_ : (List TListener) → (List UInt8) → Int → Int → Int → (List UInt8) → Bool → Bool → (List THeard) → (List (Int × Int)) → Bool → Bool → Bool → Option Tsending) : Nat → (List TListener) → (List UInt8) → Int → Int → Int → (List UInt8) → Bool → Bool → (List THeard) → (List (Int × Int)) → Bool → Bool → Bool → Int → Option Tsending
  | 0, _, _, _, _, _, _, _, _, _, _, _, _, _, _ => none
  | k + 1, s0, s1, s2, s3, s4, s5, s6, s7, s8, s9, s10, s11, s12, v11 =>
    if decide (v11 < (s_.f_l.length : Int)) then
      (at? s_.f_l v11).bind fun x_ =>
      if ((((!s11) && (decide (x_.Node = at_.f_node))) && (decide (x_.f_Type = s1))) && ((x_.Capture == at_.f_down) && true)) then
        (clerestory_event_sending_hear (⟨s0, (⟨s1, s2, s3, s4, s5, s6, s7⟩ : TEvent), s8, s9, s10, s11, s12⟩ : Tsending) x_ at_).bind fun r_ =>
        clerestory_event_sending_do_j2 v11 s_ at_ (clerestory_event_sending_do_l0 s_ at_ K0_ k) K0_ r_.f_l r_.f_e.f_Type r_.f_e.Target r_.f_e.X r_.f_e.Y r_.f_e.Key r_.f_e.Bubbles r_.f_e.Cancels r_.f_heard r_.f_gone r_.f_stops r_.f_all r_.f_no
      else
        clerestory_event_sending_do_j2 v11 s_ at_ (clerestory_event_sending_do_l0 s_ at_ K0_ k) K0_ s0 s1 s2 s3 s4 s5 s6 s7 s8 s9 s10 s11 s12
    else
      K0_ s0 s1 s2 s3 s4 s5 s6 s7 s8 s9 s10 s11 s12
theorem clerestory_event_sending_do_l0_ok {mL : Int} {Q : AExit → St → Prop} {s_ : Tsending} {at_ : Tstep} {K0_ : (List TListener) → (List UInt8) → Int → Int → Int → (List UInt8) → Bool → Bool → (List THeard) → (List (Int × Int)) → Bool → Bool → Bool → Option Tsending} {k : Nat} {s0 : (List TListener)} {s1 : (List UInt8)} {s2 : Int} {s3 : Int} {s4 : Int} {s5 : (List UInt8)} {s6 : Bool} {s7 : Bool} {s8 : (List THeard)} {s9 : (List (Int × Int))} {s10 : Bool} {s11 : Bool} {s12 : Bool} {v11 : Int} {zs8 : Bool} (hzs8 : zs8 = true → s8 = []) {o : Tsending} (h : clerestory_event_sending_do_l0 s_ at_ K0_ k s0 s1 s2 s3 s4 s5 s6 s7 s8 s9 s10 s11 s12 v11 = some o)
    (hK0 : clerestory_event_sending_do_l0_E0 K0_ o (Q (.exit 0)))
    (hr : ∀ s, Ends a18.results 3 (clerestory_event_sending_do_post o) .ret s → Q .ret s) :
    Sv Tryd.prog (GG mL) 3 (.loop a18_c1) Q ⟨(upd (upd (upd (upd (upd (fun _ => none) 0 (some (.c (.ref 0 13 0 0)))) 3 (some (.c (.ref 4 3 0 0)))) 9 (some (.c (.ro false 8 (s_.f_l.map e_TListener))))) 10 (some (I (s_.f_l.length : Int)))) 11 (some (I v11))), (upd (upd (upd (upd (fun _ => none) 0 (some (.cells 13 [[.ro false 8 (s0.map e_TListener), .str s1, cI s2, cI s3, cI s4, .str s5, cB s6, cB s7, lstC zs8 3 3 s8.length, .mp 2, cB s10, cB s11, cB s12]]))) 2 (mapB (.i .i64) (fun x => cI x) (fun (x : Int) => (I x)) s9)) 3 (lstB zs8 3 (s8.map e_THeard))) 4 (some (.cells 3 [[cI at_.f_node, cI at_.f_phase, cB at_.f_down]]))), 5⟩ := by
  refine Sv.loop (I := clerestory_event_sending_do_l0_I s_ at_ (clerestory_event_sending_do_l0 s_ at_ K0_) o) (fun k s hI => ?_) ⟨s0, s1, s2, s3, s4, s5, s6, s7, s8, s9, s10, s11, s12, v11, zs8, hzs8, h, rfl⟩
  clear h
  clear hzs8 zs8 v11 s12 s11 s10 s9 s8 s7 s6 s5 s4 s3 s2 s1 s0
  obtain ⟨s0, s1, s2, s3, s4, s5, s6, s7, s8, s9, s10, s11, s12, v11, zs8, hzs8, h, rfl⟩ := hI
  cases k with
  | zero => cases h
  | succ k =>
  rw [clerestory_event_sending_do_l0] at h
  have hself : clerestory_event_sending_do_l0_H s_ at_ (clerestory_event_sending_do_l0 s_ at_ K0_ k) o (rnd 3 (clerestory_event_sending_do_l0_I s_ at_ (clerestory_event_sending_do_l0 s_ at_ K0_) o) k Q) := fun s0 s1 s2 s3 s4 s5 s6 s7 s8 s9 s10 s11 s12 v11 zs8 hzs8 h s hw => ⟨_, k, hw, Nat.lt_succ_self k, s0, s1, s2, s3, s4, s5, s6, s7, s8, s9, s10, s11, s12, v11, zs8, hzs8, h, rfl⟩
  refine Sv.seq ?_
  refine Sv.region ?_
  refine un (a1 (v := (B (decide (v11 < (s_.f_l.length : Int))))) rfl ?_)
  refine dnil ?_
  refine Sv.seq ?_
  refine Sv.cond (b := decide (v11 < (s_.f_l.length : Int))) rfl (fun hc1 => ?_) (fun hc1 => ?_)
  · replace h := ifT hc1 h
    refine Sv.skip ?_
    refine Sv.seq ?_
    refine Sv.block ?_
    refine Sv.seq ?_
    refine Sv.region ?_
    obtain ⟨x_, hx1, h⟩ := bnd h
    refine un (a1 (v := (.c (.rop [cI x_.ID, cI x_.Node, .str x_.f_Type, cB x_.Capture, cB x_.Once, cB x_.Stops, cB x_.StopsAll, cB x_.Prevents]))) (s_iaddr (e := e_TListener) (xs := s_.f_l) rfl rfl hx1) ?_)
    refine un (a1 (v := (.agg [cI x_.ID, cI x_.Node, .str x_.f_Type, cB x_.Capture, cB x_.Once, cB x_.Stops, cB x_.StopsAll, cB x_.Prevents])) rfl ?_)
    refine un (a2v (v := (.c (.ref 5 8 0 0))) (h' := upd _ 5 (some (.cells 8 [[cI 0, cI 0, .str [], cB false, cB false, cB false, cB false, cB false]]))) (n' := 6) rfl rfl (fun h => by cases h) ?_)
    refine un (a2n (h' := upd _ 5 (some (.cells 8 [[cI x_.ID, cI x_.Node, .str x_.f_Type, cB x_.Capture, cB x_.Once, cB x_.Stops, cB x_.StopsAll, cB x_.Prevents]]))) (n' := 6) rfl rfl (fun h => by cases h) ?_)
    refine dnil ?_
    refine Sv.seq ?_
    refine Sv.drawn ?_
    refine un (a1 rfl ?_)
    refine un (a1 (v := (.c (.ref 0 13 0 0))) rfl ?_)
    refine un (a1 (v := (.c (.ref 0 13 0 11))) rfl ?_)
    refine un (a1 (v := (B s11)) rfl ?_)
    refine un (a1 (v := (B (!s11))) rfl ?_)
    refine un (a1 rfl ?_)
    refine gjoin 6 (d := 26) (v := (B ((!s11) && (decide (x_.Node = at_.f_node))))) (fun X hX => ?_) ?_
    · refine split2 (fun hc2 => ?_) (fun hc2 => ?_)
      · refine gt rfl (a1 (v := (.c (.ref 5 8 0 1))) rfl ?_)
        refine gt rfl (a1 (v := (I x_.Node)) rfl ?_)
        refine gt rfl (a1 (v := (.c (.ref 4 3 0 0))) rfl ?_)
        refine gt rfl (a1 (v := (I at_.f_node)) rfl ?_)
        refine gt rfl (a1 (v := (B (decide (x_.Node = at_.f_node)))) rfl ?_)
        refine un (a1 (v := (B (decide (x_.Node = at_.f_node)))) rfl ?_)
        refine dnil ?_
        exact hX _ (.putEq (by rw [hc2]; rfl) (.skip _ _ (.skip _ _ (.skip _ _ (.skip _ _ (.skip _ _ (.putEq (by rw [hc2]) (.refl _)) rfl) rfl) rfl) rfl) rfl))
      · refine gs rfl rfl ?_
        refine gs rfl rfl ?_
        refine gs rfl rfl ?_
        refine gs rfl rfl ?_
        refine gs rfl rfl ?_
        refine un (a1 (v := (B false)) rfl ?_)
        refine dnil ?_
        exact hX _ (.putEq (by rw [hc2]; rfl) (.skip _ _ (.skip _ _ (.skip _ _ (.skip _ _ (.skip _ _ (.putEq (by rw [hc2]) (.refl _)) rfl) rfl) rfl) rfl) rfl))
    refine un (a1 rfl ?_)
    refine gjoin 9 (d := 36) (v := (B (((!s11) && (decide (x_.Node = at_.f_node))) && (decide (x_.f_Type = s1))))) (fun X hX => ?_) ?_
    · refine split2 (fun hc3 => ?_) (fun hc3 => ?_)
      · refine gt rfl (a1 (v := (.c (.ref 5 8 0 2))) rfl ?_)
        refine gt rfl (a1 (v := (S x_.f_Type)) rfl ?_)
        refine gt rfl (a1 rfl ?_)
        refine gt rfl (a1 (v := (.c (.ref 0 13 0 0))) rfl ?_)
        refine gt rfl (a1 (v := (.c (.ref 0 13 0 1))) rfl ?_)
        refine gt rfl (a1 (v := (.c (.ref 0 13 0 1))) rfl ?_)
        refine gt rfl (a1 (v := (S s1)) rfl ?_)
        refine gt rfl (a1 (v := (B (decide (x_.f_Type = s1)))) rfl ?_)
        refine un (a1 (v := (B (decide (x_.f_Type = s1)))) rfl ?_)
        refine dnil ?_
        exact hX _ (.putEq (by rw [hc3]; rfl) (.skip _ _ (.skip _ _ (.skip _ _ (.skip _ _ (.skip _ _ (.skip _ _ (.skip _ _ (.skip _ _ (.putEq (by rw [hc3]) (.refl _)) rfl) rfl) rfl) rfl) rfl) rfl) rfl) rfl))
      · refine gs rfl rfl ?_
        refine gs rfl rfl ?_
        refine gs rfl rfl ?_
        refine gs rfl rfl ?_
        refine gs rfl rfl ?_
        refine gs rfl rfl ?_
        refine gs rfl rfl ?_
        refine gs rfl rfl ?_
        refine un (a1 (v := (B false)) rfl ?_)
        refine dnil ?_
        exact hX _ (.putEq (by rw [hc3]; rfl) (.skip _ _ (.skip _ _ (.skip _ _ (.skip _ _ (.skip _ _ (.skip _ _ (.skip _ _ (.skip _ _ (.putEq (by rw [hc3]) (.refl _)) rfl) rfl) rfl) rfl) rfl) rfl) rfl) rfl))
    refine un (a1 rfl ?_)
    refine gjoin 6 (d := 43) (v := (B ((((!s11) && (decide (x_.Node = at_.f_node))) && (decide (x_.f_Type = s1))) && ((x_.Capture == at_.f_down) && true)))) (fun X hX => ?_) ?_
    · refine split2 (fun hc4 => ?_) (fun hc4 => ?_)
      · refine gt rfl (a1 (v := (.c (.ref 5 8 0 3))) rfl ?_)
        refine gt rfl (a1 (v := (B x_.Capture)) rfl ?_)
        refine gt rfl (a1 (v := (.c (.ref 4 3 0 2))) rfl ?_)
        refine gt rfl (a1 (v := (B at_.f_down)) rfl ?_)
        refine gt rfl (a1 (v := (B ((x_.Capture == at_.f_down) && true))) rfl ?_)
        refine un (a1 (v := (B ((x_.Capture == at_.f_down) && true))) rfl ?_)
        refine dnil ?_
        exact hX _ (.putEq (by rw [hc4]; rfl) (.skip _ _ (.skip _ _ (.skip _ _ (.skip _ _ (.skip _ _ (.putEq (by rw [hc4]) (.refl _)) rfl) rfl) rfl) rfl) rfl))
      · refine gs rfl rfl ?_
        refine gs rfl rfl ?_
        refine gs rfl rfl ?_
        refine gs rfl rfl ?_
        refine gs rfl rfl ?_
        refine un (a1 (v := (B false)) rfl ?_)
        refine dnil ?_
        exact hX _ (.putEq (by rw [hc4]; rfl) (.skip _ _ (.skip _ _ (.skip _ _ (.skip _ _ (.skip _ _ (.putEq (by rw [hc4]) (.refl _)) rfl) rfl) rfl) rfl) rfl))
    refine dnil ?_
    refine Sv.cond (b := ((((!s11) && (decide (x_.Node = at_.f_node))) && (decide (x_.f_Type = s1))) && ((x_.Capture == at_.f_down) && true))) rfl (fun hc5 => ?_) (fun hc5 => ?_)
    · replace h := ifT hc5 h
      refine Sv.region ?_
      refine un (a1 rfl ?_)
      refine un (a1 (v := (.agg [cI x_.ID, cI x_.Node, .str x_.f_Type, cB x_.Capture, cB x_.Once, cB x_.Stops, cB x_.StopsAll, cB x_.Prevents])) rfl ?_)
      refine un (a1 (v := (.agg [cI at_.f_node, cI at_.f_phase, cB at_.f_down])) rfl ?_)
      obtain ⟨r_, hr1, h⟩ := bnd h
      refine un (ac_gen (bs := [0, 3, 2]) («as» := [(.c (.ref 0 13 0 0)), (.agg [cI x_.ID, cI x_.Node, .str x_.f_Type, cB x_.Capture, cB x_.Once, cB x_.Stops, cB x_.StopsAll, cB x_.Prevents]), (.agg [cI at_.f_node, cI at_.f_phase, cB at_.f_down])]) (h2 := _) (h1 := (upd (upd (upd (fun _ => none) 0 (some (.cells 13 [[.ro false 8 (s0.map e_TListener), .str s1, cI s2, cI s3, cI s4, .str s5, cB s6, cB s7, lstC zs8 3 3 s8.length, .mp 2, cB s10, cB s11, cB s12]]))) 3 (lstB zs8 3 (s8.map e_THeard))) 2 (mapB (.i .i64) (fun x => cI x) (fun (x : Int) => (I x)) s9))) (clerestory_event_sending_hear_ok hzs8 hr1) rfl (.cons (.c (.ref rfl (by decide))) (.cons (avAs_free rfl) (.cons (avAs_free rfl) .nil))) (hsub_refl _) (.cons rfl (.cons rfl (.cons rfl (.nil _)))) (fun h => by cases h) (by decide) (by decide) (.cons (.c (.ref rfl (by decide))) (.cons (avAs_free rfl) (.cons (avAs_free rfl) .nil))) (.box (by decide) rfl .map (.row (by decide) rfl (fr_map fun _ => rfl) (.box (by decide) rfl (blkAs_cells (.cons (.same rfl) (.cons (.same rfl) (.cons (.same rfl) (.cons (.same rfl) (.cons (.same rfl) (.cons (.same rfl) (.cons (.same rfl) (.cons (.same rfl) (.cons (lstC_ren rfl (by decide)) (.cons (.mp rfl (by decide)) (.cons (.same rfl) (.cons (.same rfl) (.cons (.same rfl) .nil)))))))))))))) .nil))) ?_)
      rintro _ _ _ hn ⟨z_, hz_, rfl, rfl, rfl⟩
      refine ⟨.inl rfl, (upd (upd (upd (rem [0, 3, 2] _) 0 (some (.cells 13 [[.ro false 8 (r_.f_l.map e_TListener), .str r_.f_e.f_Type, cI r_.f_e.Target, cI r_.f_e.X, cI r_.f_e.Y, .str r_.f_e.Key, cB r_.f_e.Bubbles, cB r_.f_e.Cancels, lstC z_ 6 3 r_.f_heard.length, .mp 2, cB r_.f_stops, cB r_.f_all, cB r_.f_no]]))) 2 (mapB (.i .i64) (fun x => cI x) (fun (x : Int) => (I x)) r_.f_gone)) 6 (lstB z_ 3 (r_.f_heard.map e_THeard))), fun hbd => (m3_cons (m3_row rfl (fr_map fun _ => rfl)) (m3_cons (m3_box rfl rfl) (m3_cons (m3_box rfl (by cases z_ <;> rfl)) (m3_rem (in_cons (by decide) (in_cons (by decide) (in_cons (by decide) (in_nil _)))) (.cons (by decide) (.cons (by decide) (.cons (by decide) .nil))) hbd)))), (.tup []), 7, (by cases z_ <;> rfl), rfl, ?_⟩
      refine dnil ?_
      exact Sv.weak (weak_canon [0, 1, 2, 6, 4] rfl (by decide) (by decide) (by decide) (.cons rfl (avAs_free rfl) (.cons rfl (avAs_free rfl) (.cons rfl (avAs_free rfl) (.cons rfl (.c (.ref rfl (by decide))) (.cons rfl (.c (.ref rfl (by decide))) .nil))))) (.box (by decide) rfl (blkAs_cells (.cons (.same rfl) (.cons (.same rfl) (.cons (.same rfl) .nil)))) (.row (by decide) rfl (fr_map fun _ => rfl) (.box (by decide) rfl .map (.box (by decide) rfl (blkAs_cells (.cons (.same rfl) (.cons (.same rfl) (.cons (.same rfl) (.cons (.same rfl) (.cons (.same rfl) (.cons (.same rfl) (.cons (.same rfl) (.cons (.same rfl) (.cons (lstC_ren rfl (by decide)) (.cons (.mp rfl (by decide)) (.cons (.same rfl) (.cons (.same rfl) (.cons (.same rfl) .nil)))))))))))))) .nil))))) (clerestory_event_sending_do_j2_ok hz_ h hself hK0 hr)
    · replace h := ifF hc5 h
      refine Sv.skip ?_
      exact Sv.weak (weak_canon [0, 1, 2, 3, 4] rfl (by decide) (by decide) (by decide) (.cons rfl (avAs_free rfl) (.cons rfl (avAs_free rfl) (.cons rfl (avAs_free rfl) (.cons rfl (.c (.ref rfl (by decide))) (.cons rfl (.c (.ref rfl (by decide))) .nil))))) (.box (by decide) rfl (blkAs_cells (.cons (.same rfl) (.cons (.same rfl) (.cons (.same rfl) .nil)))) (.row (by decide) rfl (fr_map fun _ => rfl) (.box (by decide) rfl .map (.box (by decide) rfl (blkAs_cells (.cons (.same rfl) (.cons (.same rfl) (.cons (.same rfl) (.cons (.same rfl) (.cons (.same rfl) (.cons (.same rfl) (.cons (.same rfl) (.cons (.same rfl) (.cons (lstC_ren rfl (by decide)) (.cons (.mp rfl (by decide)) (.cons (.same rfl) (.cons (.same rfl) (.cons (.same rfl) .nil)))))))))))))) .nil))))) (clerestory_event_sending_do_j2_ok hzs8 h hself hK0 hr)
  · replace h := ifF hc1 h
    refine Sv.exit ?_
    exact hK0 s0 s1 s2 s3 s4 s5 s6 s7 s8 s9 s10 s11 s12 zs8 hzs8 h _ (weak_canon [0, 1, 2, 3] rfl (by decide) (by decide) (by decide) (.cons rfl (.c (.ref rfl (by decide))) .nil) (.row (by decide) rfl (fr_map fun _ => rfl) (.box (by decide) rfl .map (.box (by decide) rfl (blkAs_cells (.cons (.same rfl) (.cons (.same rfl) (.cons (.same rfl) (.cons (.same rfl) (.cons (.same rfl) (.cons (.same rfl) (.cons (.same rfl) (.cons (.same rfl) (.cons (lstC_ren rfl (by decide)) (.cons (.mp rfl (by decide)) (.cons (.same rfl) (.cons (.same rfl) (.cons (.same rfl) .nil)))))))))))))) .nil))))
/-- (*clerestory/event.sending).do -/
noncomputable def clerestory_event_sending_do (s_ : Tsending) (at_ : Tstep) : Option Tsending :=
  lim fun kk => clerestory_event_sending_do_l0 s_ at_ (fun (s01 : (List TListener)) (s13 : (List UInt8)) (s21 : Int) (s31 : Int) (s41 : Int) (s51 : (List UInt8)) (s61 : Bool) (s71 : Bool) (s81 : (List THeard)) (s91 : (List (Int × Int))) (s101 : Bool) (s111 : Bool) (s121 : Bool) => 
      some (⟨s01, (⟨s13, s21, s31, s41, s51, s61, s71⟩ : TEvent), s81, s91, s101, s111, s121⟩ : Tsending)) kk s_.f_l s_.f_e.f_Type s_.f_e.Target s_.f_e.X s_.f_e.Y s_.f_e.Key s_.f_e.Bubbles s_.f_e.Cancels s_.f_heard s_.f_gone s_.f_stops s_.f_all s_.f_no 0
theorem clerestory_event_sending_do_ok {mL : Int} {s_ : Tsending} {at_ : Tstep} {zs : Bool} (hzs : zs = true → s_.f_heard = []) {r : Tsending} (h : clerestory_event_sending_do s_ at_ = some r) : ACalls Tryd.prog (GG mL) 18 [(.c (.ref 0 13 0 0)), (.agg [cI at_.f_node, cI at_.f_phase, cB at_.f_down])] (upd (upd (upd (fun _ => none) 0 (some (.cells 13 [[.ro false 8 (s_.f_l.map e_TListener), .str s_.f_e.f_Type, cI s_.f_e.Target, cI s_.f_e.X, cI s_.f_e.Y, .str s_.f_e.Key, cB s_.f_e.Bubbles, cB s_.f_e.Cancels, lstC zs 1 3 s_.f_heard.length, .mp 2, cB s_.f_stops, cB s_.f_all, cB s_.f_no]]))) 1 (lstB zs 3 (s_.f_heard.map e_THeard))) 2 (mapB (.i .i64) (fun x => cI x) (fun (x : Int) => (I x)) s_.f_gone)) 3 (clerestory_event_sending_do_post r) := by
  refine acalls_of_sv hmix c18 (R := clerestory_event_sending_do_post r) ?_
  unfold clerestory_event_sending_do at h
  refine Sv.seq ?_
  refine Sv.region ?_
  refine un (a2v (v := (.c (.ref 3 3 0 0))) (h' := upd _ 3 (some (.cells 3 [[cI at_.f_node, cI at_.f_phase, cB at_.f_down]]))) (n' := 4) rfl rfl (fun h => by cases h) ?_)
  refine dnil ?_
  refine Sv.seq ?_
  refine Sv.region ?_
  refine un (a1 rfl ?_)
  refine un (a1 (v := (.c (.ref 0 13 0 0))) rfl ?_)
  refine un (a1 (v := (.c (.ref 0 13 0 0))) rfl ?_)
  refine un (a1 (v := (.c (.ro false 8 (s_.f_l.map e_TListener)))) rfl ?_)
  refine un (a1 (v := (I (s_.f_l.length : Int))) (s_len (e := e_TListener) (xs := s_.f_l) rfl) ?_)
  refine un (a1 rfl ?_)
  refine dnil ?_
  refine Sv.block ?_
  obtain ⟨kk, h⟩ := lim_some h
  refine Sv.weak (weak_canon2 [0, 1, 2, 1, 3] [0, 2, 3, 4] (by decide) (by decide) (by decide) (.cons (by decide) (.cons (by decide) (.cons (by decide) (.cons (by decide) .nil)))) (.cons rfl (avAs_free rfl) (.cons rfl (avAs_free rfl) (.cons rfl (avAs_free rfl) (.cons rfl (.c (.ref rfl (by decide))) (.cons rfl (.c (.ref rfl (by decide))) .nil))))) (.box (by decide) rfl (blkAs_cells (.cons (.same rfl) (.cons (.same rfl) (.cons (.same rfl) .nil)))) (.row (by decide) rfl (fr_map fun _ => rfl) (.box (by decide) rfl .map (.box (by decide) rfl (blkAs_cells (.cons (.same rfl) (.cons (.same rfl) (.cons (.same rfl) (.cons (.same rfl) (.cons (.same rfl) (.cons (.same rfl) (.cons (.same rfl) (.cons (.same rfl) (.cons (lstC_ren rfl (by decide)) (.cons (.mp rfl (by decide)) (.cons (.same rfl) (.cons (.same rfl) (.cons (.same rfl) .nil)))))))))))))) .nil))))) (clerestory_event_sending_do_l0_ok hzs h ?_ (fun s hs => hs))
  · intro s01 s13 s21 s31 s41 s51 s61 s71 s81 s91 s101 s111 s121 zs81 hzs81 h _ hw1
    replace h := Option.some.inj h
    subst h
    exact ⟨_, hw1, _, rfl, ⟨upd (fun _ => none) 0 (some (.tup [])), (upd (upd (upd (fun _ => none) 0 (some (.cells 13 [[.ro false 8 (s01.map e_TListener), .str s13, cI s21, cI s31, cI s41, .str s51, cB s61, cB s71, lstC zs81 3 3 s81.length, .mp 2, cB s101, cB s111, cB s121]]))) 2 (mapB (.i .i64) (fun x => cI x) (fun (x : Int) => (I x)) s91)) 3 (lstB zs81 3 (s81.map e_THeard))), 4⟩, (.tup []), weak_canon2 [0, 1, 2, 3] [0, 2, 3] (by decide) (by decide) (by decide) (.cons (by decide) (.cons (by decide) (.cons (by decide) .nil))) (.cons rfl (avAs_tup .nil) .nil) (.row (by decide) rfl (fr_map fun _ => rfl) (.box (by decide) rfl .map (.box (by decide) rfl (blkAs_cells (.cons (.same rfl) (.cons (.same rfl) (.cons (.same rfl) (.cons (.same rfl) (.cons (.same rfl) (.cons (.same rfl) (.cons (.same rfl) (.cons (.same rfl) (.cons (lstC_ren rfl (by decide)) (.cons (.mp rfl (by decide)) (.cons (.same rfl) (.cons (.same rfl) (.cons (.same rfl) .nil)))))))))))))) .nil))), rfl, zs81, hzs81, rfl, rfl, rfl⟩
def a20 : AFunc := ⟨1, [(.tmp 2)], (.seq (.region [⟨(some 2), (.mov (.const (.c (.ro true 8 [])))), none⟩])
 (.seq (.seq (.region [⟨(some 3), (.mov (.tmp 0)), none⟩, ⟨(some 4), (.eqn false (.tmp 3)), none⟩])
 (.cond (.tmp 4) (.seq (.region [⟨(some 2), (.mov (.const (.c (.ro true 8 [])))), none⟩])
 .ret) .skip))
 (.seq (.region [⟨(some 5), (.bslice 8 [(.val (.int .i64 0)), (.val (.int .i64 0)), (.str []), (.val (.bool false)), (.val (.bool false)), (.val (.bool false)), (.val (.bool false)), (.val (.bool false))] 0 []), none⟩, ⟨(some 6), (.mov (.tmp 0)), none⟩, ⟨(some 7), (.app 8 40 (.tmp 5) (.tmp 6)), none⟩, ⟨(some 2), (.mov (.tmp 7)), none⟩])
 .ret)))⟩
set_option maxRecDepth 100000 in
theorem c20 : compFunc Tryd.prog 20 = some a20 := by kernel_rfl
def slices_Clone_Listener_post (r : (List TListener)) : AV → Heap → Nat → Prop := fun v h' n' => ∃ z0 : Bool, (z0 = true → r = []) ∧ v = (lstV z0 0 8 r.length) ∧ (h' = (upd (fun _ => none) 0 (lstB z0 8 (r.map e_TListener)))) ∧ n' = 1
/-- slices.Clone(()clerestory/api.Listener,clerestory/api.Listener) -/
noncomputable def slices_Clone_Listener (s_ : (List TListener)) : Option (List TListener) :=
  (app? 40 ([] : List TListener) s_).bind fun r_ =>
  some r_
theorem slices_Clone_Listener_ok {mL : Int} {s_ : (List TListener)} {r : (List TListener)} (h : slices_Clone_Listener s_ = some r) : ACalls Tryd.prog (GG mL) 20 [(.c (.ro false 8 (s_.map e_TListener)))] (fun _ => none) 0 (slices_Clone_Listener_post r) := by
  refine acalls_of_sv hmix c20 (R := slices_Clone_Listener_post r) ?_
  unfold slices_Clone_Listener at h
  refine Sv.seq ?_
  refine Sv.region ?_
  refine un (a1 rfl ?_)
  refine dnil ?_
  refine Sv.seq ?_
  refine Sv.seq ?_
  refine Sv.region ?_
  refine un (a1 rfl ?_)
  refine un (a1n (e := e_TListener) (xs := s_) rfl (fun hn1 => ?_) ?_)
  · replace h : (some ([] : List TListener)) = some r := by rw [hn1] at h; exact h
    refine dnil ?_
    refine Sv.condT rfl ?_
    refine Sv.seq ?_
    refine Sv.region ?_
    refine un (a1 rfl ?_)
    refine dnil ?_
    refine Sv.ret ?_
    replace h := Option.some.inj h
    subst h
    exact ⟨_, .refl _, _, rfl, ⟨upd (fun _ => none) 0 (some (lstV true 0 8 ([] : List TListener).length)), (upd (fun _ => none) 0 (lstB true 8 (([] : List TListener).map e_TListener))), 1⟩, (lstV true 0 8 ([] : List TListener).length), weak_canon2 [1000] [0] (by decide) (by decide) (fun b h => absurd h (Nat.not_lt_zero _)) (.cons (by decide) .nil) (.cons rfl (.c (.same rfl)) .nil) (.non (by decide) .nil), rfl, true, (fun _ => rfl), rfl, rfl, rfl⟩
  · refine dnil ?_
    refine Sv.condF rfl ?_
    refine Sv.skip ?_
    refine Sv.seq ?_
    refine Sv.region ?_
    refine un (a2v (v := (lstV false 0 8 ([] : List TListener).length)) (h' := upd _ 0 (lstB false 8 (([] : List TListener).map e_TListener))) (n' := 1) rfl rfl (fun h => by cases h) ?_)
    refine un (a1 rfl ?_)
    obtain ⟨r_, hr1, h⟩ := bnd h
    have hz1 : (false && s_.isEmpty) = true → r_ = [] := app_nil (z := false) (ys := s_) (fun h => by cases h) hr1
    replace hz1 : false = true → r_ = [] := hz1
    refine un (a2v rfl (s_app (xs := ([] : List TListener)) (ys := s_) (e := e_TListener) (z := false) (b := 0) rfl rfl (fun h => by cases h) rfl rfl (slc_ro) hr1) (fun h => by cases h) ?_)
    refine un (a1 rfl ?_)
    refine dnil ?_
    refine Sv.ret ?_
    replace h := Option.some.inj h
    subst h
    exact ⟨_, .refl _, _, rfl, ⟨upd (fun _ => none) 0 (some (lstV false 0 8 r_.length)), (upd (fun _ => none) 0 (lstB false 8 (r_.map e_TListener))), 1⟩, (lstV false 0 8 r_.length), weak_canon2 [1] [0] (by decide) (by decide) (fun b h => absurd h (Nat.not_lt_zero _)) (.cons (by decide) .nil) (.cons rfl (.c (lstC_ren rfl (by decide))) .nil) (.row (by decide) rfl (fr_map fun _ => rfl) .nil), rfl, false, hz1, rfl, rfl, rfl⟩
def a21 : AFunc := ⟨2, [(.tmp 3)], (.seq (.region [⟨(some 2), (.box (.tmp 0)), none⟩, ⟨(some 3), (.mov (.const (.c (.val (.bool false))))), none⟩])
 (.seq (.drawn (.fin [(⟨(some 4), (.load false 1 (.tmp 1)), none⟩, (0, 0)), (⟨(some 5), (.nilc (.tmp 4)), none⟩, (0, 1)), (⟨(some 6), (.faddr 9 (.tmp 5)), none⟩, (0, 2)), (⟨(some 7), (.load false 1 (.tmp 6)), none⟩, (0, 3)), (⟨(some 8), (.faddr 0 (.tmp 2)), none⟩, (0, 4)), (⟨(some 9), (.load false 1 (.tmp 8)), none⟩, (0, 5)), (⟨(some 10), (.mlook (.i .i64) (.c (.val (.int .i64 0))) false (.tmp 7) (.tmp 9)), none⟩, (0, 6)), (⟨(some 11), (.bin .eql (.tmp 10) (.const (.c (.val (.int .i64 1))))), none⟩, (0, 7)), (⟨(some 3), (.mov (.tmp 11)), none⟩, (0, 8))]))
 .ret))⟩
set_option maxRecDepth 100000 in
theorem c21 : compFunc Tryd.prog 21 = some a21 := by kernel_rfl
def event_Send_fn1_post (r : (Bool × (List TListener) × (List UInt8) × Int × Int × Int × (List UInt8) × Bool × Bool × (List THeard) × (List (Int × Int)) × Bool × Bool × Bool)) : AV → Heap → Nat → Prop := fun v h' n' => ∃ z0 : Bool, (z0 = true → r.2.2.2.2.2.2.2.2.2.1 = []) ∧ v = (B r.1) ∧ (h' = (upd (upd (upd (upd (fun _ => none) 0 (some (.cells 1 [[.ref 1 13 0 0]]))) 1 (some (.cells 13 [[.ro false 8 (r.2.1.map e_TListener), .str r.2.2.1, cI r.2.2.2.1, cI r.2.2.2.2.1, cI r.2.2.2.2.2.1, .str r.2.2.2.2.2.2.1, cB r.2.2.2.2.2.2.2.1, cB r.2.2.2.2.2.2.2.2.1, lstC z0 4 3 r.2.2.2.2.2.2.2.2.2.1.length, .mp 3, cB r.2.2.2.2.2.2.2.2.2.2.2.1, cB r.2.2.2.2.2.2.2.2.2.2.2.2.1, cB r.2.2.2.2.2.2.2.2.2.2.2.2.2]]))) 3 (mapB (.i .i64) (fun x => cI x) (fun (x : Int) => (I x)) r.2.2.2.2.2.2.2.2.2.2.1)) 4 (lstB z0 3 (r.2.2.2.2.2.2.2.2.2.1.map e_THeard)))) ∧ n' = 5
/-- clerestory/event.Send$1 -/
noncomputable def event_Send_fn1 (x_ : TListener) (v100 : (List TListener)) (v101 : (List UInt8)) (v102 : Int) (v103 : Int) (v104 : Int) (v105 : (List UInt8)) (v106 : Bool) (v107 : Bool) (v108 : (List THeard)) (v109 : (List (Int × Int))) (v1010 : Bool) (v1011 : Bool) (v1012 : Bool) : Option (Bool × (List TListener) × (List UInt8) × Int × Int × Int × (List UInt8) × Bool × Bool × (List THeard) × (List (Int × Int)) × Bool × Bool × Bool) :=
  some (decide (((mget v109 x_.ID).getD (0 : Int)) = 1), v100, v101, v102, v103, v104, v105, v106, v107, v108, v109, v1010, v1011, v1012)
theorem event_Send_fn1_ok {mL : Int} {x_ : TListener} {v100 : (List TListener)} {v101 : (List UInt8)} {v102 : Int} {v103 : Int} {v104 : Int} {v105 : (List UInt8)} {v106 : Bool} {v107 : Bool} {v108 : (List THeard)} {v109 : (List (Int × Int))} {v1010 : Bool} {v1011 : Bool} {v1012 : Bool} {zv10 : Bool} (hzv10 : zv10 = true → v108 = []) {r : (Bool × (List TListener) × (List UInt8) × Int × Int × Int × (List UInt8) × Bool × Bool × (List THeard) × (List (Int × Int)) × Bool × Bool × Bool)} (h : event_Send_fn1 x_ v100 v101 v102 v103 v104 v105 v106 v107 v108 v109 v1010 v1011 v1012 = some r) : ACalls Tryd.prog (GG mL) 21 [(.agg [cI x_.ID, cI x_.Node, .str x_.f_Type, cB x_.Capture, cB x_.Once, cB x_.Stops, cB x_.StopsAll, cB x_.Prevents]), (.c (.ref 0 1 0 0))] (upd (upd (upd (upd (fun _ => none) 0 (some (.cells 1 [[.ref 1 13 0 0]]))) 1 (some (.cells 13 [[.ro false 8 (v100.map e_TListener), .str v101, cI v102, cI v103, cI v104, .str v105, cB v106, cB v107, lstC zv10 2 3 v108.length, .mp 3, cB v1010, cB v1011, cB v1012]]))) 2 (lstB zv10 3 (v108.map e_THeard))) 3 (mapB (.i .i64) (fun x => cI x) (fun (x : Int) => (I x)) v109)) 4 (event_Send_fn1_post r) := by
  refine acalls_of_sv hmix c21 (R := event_Send_fn1_post r) ?_
  unfold event_Send_fn1 at h
  refine Sv.seq ?_
  refine Sv.region ?_
  refine un (a2v (v := (.c (.ref 4 8 0 0))) (h' := upd _ 4 (some (.cells 8 [[cI x_.ID, cI x_.Node, .str x_.f_Type, cB x_.Capture, cB x_.Once, cB x_.Stops, cB x_.StopsAll, cB x_.Prevents]]))) (n' := 5) rfl rfl (fun h => by cases h) ?_)
  refine un (a1 rfl ?_)
  refine dnil ?_
  refine Sv.seq ?_
  refine Sv.drawn ?_
  refine un (a1 (v := (.c (.ref 1 13 0 0))) rfl ?_)
  refine un (a1 (v := (.c (.ref 1 13 0 0))) rfl ?_)
  refine un (a1 (v := (.c (.ref 1 13 0 9))) rfl ?_)
  refine un (a1 (v := (.c (.mp 3))) rfl ?_)
  refine un (a1 (v := (.c (.ref 4 8 0 0))) rfl ?_)
  refine un (a1 (v := (I x_.ID)) rfl ?_)
  refine un (a1 (v := (I ((mget v109 x_.ID).getD (0 : Int)))) (s_mlook (ek := (fun x => cI x)) (ev := (fun (x : Int) => (I x))) (l := v109) (key := x_.ID) (z := 0) (fun _ _ => rfl) rfl rfl rfl rfl rfl) ?_)
  refine un (a1 (v := (B (decide (((mget v109 x_.ID).getD (0 : Int)) = 1)))) rfl ?_)
  refine un (a1 rfl ?_)
  refine dnil ?_
  refine Sv.ret ?_
  replace h := Option.some.inj h
  subst h
  exact ⟨_, .refl _, _, rfl, ⟨upd (fun _ => none) 0 (some (B (decide (((mget v109 x_.ID).getD (0 : Int)) = 1)))), (upd (upd (upd (upd (fun _ => none) 0 (some (.cells 1 [[.ref 1 13 0 0]]))) 1 (some (.cells 13 [[.ro false 8 (v100.map e_TListener), .str v101, cI v102, cI v103, cI v104, .str v105, cB v106, cB v107, lstC zv10 4 3 v108.length, .mp 3, cB v1010, cB v1011, cB v1012]]))) 3 (mapB (.i .i64) (fun x => cI x) (fun (x : Int) => (I x)) v109)) 4 (lstB zv10 3 (v108.map e_THeard))), 5⟩, (B (decide (((mget v109 x_.ID).getD (0 : Int)) = 1))), weak_canon2 [0, 1, 2, 3, 2] [0, 1, 3, 4] (by decide) (by decide) (by decide) (.cons (by decide) (.cons (by decide) (.cons (by decide) (.cons (by decide) .nil)))) (.cons rfl (avAs_free rfl) .nil) (.row (by decide) rfl (fr_map fun _ => rfl) (.box (by decide) rfl .map (.box (by decide) rfl (blkAs_cells (.cons (.same rfl) (.cons (.same rfl) (.cons (.same rfl) (.cons (.same rfl) (.cons (.same rfl) (.cons (.same rfl) (.cons (.same rfl) (.cons (.same rfl) (.cons (lstC_ren rfl (by decide)) (.cons (.mp rfl (by decide)) (.cons (.same rfl) (.cons (.same rfl) (.cons (.same rfl) .nil)))))))))))))) (.box (by decide) rfl (blkAs_cells (.cons (.ref rfl (by decide)) .nil)) .nil)))), rfl, zv10, hzv10, rfl, rfl, rfl⟩
def a33_c0 : ACode := (.seq (.region [⟨(some 9), (.bin .lss (.tmp 8) (.tmp 7)), none⟩])
 (.seq (.cond (.tmp 9) .skip (.exit 0))
 (.seq (.block 1 (.seq (.region [⟨(some 10), (.mov (.tmp 8)), none⟩, ⟨(some 5), (.mov (.tmp 10)), none⟩])
 (.seq (.region [⟨(some 11), (.mov (.tmp 1)), none⟩, ⟨(some 12), (.mov (.tmp 0)), none⟩, ⟨(some 13), (.mov (.tmp 5)), none⟩, ⟨(some 14), (.iaddr 8 (.tmp 12) (.tmp 13)), none⟩, ⟨(some 15), (.load true 8 (.tmp 14)), none⟩, ⟨(some 16), (.callv (.tmp 11) [(.tmp 15)]), none⟩])
 (.cond (.tmp 16) (.seq (.region [⟨(some 17), (.mov (.tmp 5)), none⟩, ⟨(some 4), (.mov (.tmp 17)), none⟩])
 .ret) .skip))))
 (.region [⟨(some 18), (.bin .add (.tmp 8) (.const (.c (.val (.int .i64 1))))), none⟩, ⟨(some 8), (.mov (.tmp 18)), none⟩]))))
def a33 : AFunc := ⟨2, [(.tmp 4)], (.seq (.region [⟨(some 4), (.mov (.const (.c (.val (.int .i64 0))))), none⟩])
 (.seq (.seq (.region [⟨(some 6), (.mov (.tmp 0)), none⟩, ⟨(some 7), (.len (.tmp 6)), none⟩, ⟨(some 8), (.mov (.const (.c (.val (.int .i64 0))))), none⟩])
 (.block 0 (.loop a33_c0)))
 (.seq (.region [⟨(some 4), (.mov (.const (.c (.val (.int .i64 (-1)))))), none⟩])
 .ret)))⟩
set_option maxRecDepth 100000 in
theorem c33 : compFunc Tryd.prog 33 = some a33 := by kernel_rfl
def slices_IndexFunc_Listener_post (r : (Int × (List TListener) × (List UInt8) × Int × Int × Int × (List UInt8) × Bool × Bool × (List THeard) × (List (Int × Int)) × Bool × Bool × Bool)) : AV → Heap → Nat → Prop := fun v h' n' => ∃ z0 : Bool, (z0 = true → r.2.2.2.2.2.2.2.2.2.1 = []) ∧ v = (I r.1) ∧ (h' = (upd (upd (upd (upd (fun _ => none) 0 (some (.cells 1 [[.ref 1 13 0 0]]))) 1 (some (.cells 13 [[.ro false 8 (r.2.1.map e_TListener), .str r.2.2.1, cI r.2.2.2.1, cI r.2.2.2.2.1, cI r.2.2.2.2.2.1, .str r.2.2.2.2.2.2.1, cB r.2.2.2.2.2.2.2.1, cB r.2.2.2.2.2.2.2.2.1, lstC z0 4 3 r.2.2.2.2.2.2.2.2.2.1.length, .mp 3, cB r.2.2.2.2.2.2.2.2.2.2.2.1, cB r.2.2.2.2.2.2.2.2.2.2.2.2.1, cB r.2.2.2.2.2.2.2.2.2.2.2.2.2]]))) 3 (mapB (.i .i64) (fun x => cI x) (fun (x : Int) => (I x)) r.2.2.2.2.2.2.2.2.2.2.1)) 4 (lstB z0 3 (r.2.2.2.2.2.2.2.2.2.1.map e_THeard)))) ∧ n' = 5
abbrev slices_IndexFunc_Listener_l0_E0 (F_ : (List TListener) → (List UInt8) → Int → Int → Int → (List UInt8) → Bool → Bool → (List THeard) → (List (Int × Int)) → Bool → Bool → Bool → Option (Int × (List TListener) × (List UInt8) × Int × Int × Int × (List UInt8) × Bool × Bool × (List THeard) × (List (Int × Int)) × Bool × Bool × Bool)) (o : (Int × (List TListener) × (List UInt8) × Int × Int × Int × (List UInt8) × Bool × Bool × (List THeard) × (List (Int × Int)) × Bool × Bool × Bool)) (R_ : St → Prop) : Prop := ∀ (f01 : (List TListener)) (f13 : (List UInt8)) (f21 : Int) (f31 : Int) (f41 : Int) (f51 : (List UInt8)) (f61 : Bool) (f71 : Bool) (f81 : (List THeard)) (f91 : (List (Int × Int))) (f101 : Bool) (f111 : Bool) (f121 : Bool) (zf81 : Bool) (_ : zf81 = true → f81 = []), F_ f01 f13 f21 f31 f41 f51 f61 f71 f81 f91 f101 f111 f121 = some o → ∀ s, Weak 4 s ⟨(upd (fun _ => none) 1 (some (.c (.fn (.func 21) [] [.ref 0 1 0 0])))), (upd (upd (upd (upd (fun _ => none) 0 (some (.cells 1 [[.ref 1 13 0 0]]))) 1 (some (.cells 13 [[.ro false 8 (f01.map e_TListener), .str f13, cI f21, cI f31, cI f41, .str f51, cB f61, cB f71, lstC zf81 4 3 f81.length, .mp 3, cB f101, cB f111, cB f121]]))) 3 (mapB (.i .i64) (fun x => cI x) (fun (x : Int) => (I x)) f91)) 4 (lstB zf81 3 (f81.map e_THeard))), 5⟩ → R_ s
abbrev slices_IndexFunc_Listener_l0_I (s_ : (List TListener)) (F_ : Nat → (List TListener) → (List UInt8) → Int → Int → Int → (List UInt8) → Bool → Bool → (List THeard) → (List (Int × Int)) → Bool → Bool → Bool → Int → Option (Int × (List TListener) × (List UInt8) × Int × Int × Int × (List UInt8) × Bool × Bool × (List THeard) × (List (Int × Int)) × Bool × Bool × Bool)) (o : (Int × (List TListener) × (List UInt8) × Int × Int × Int × (List UInt8) × Bool × Bool × (List THeard) × (List (Int × Int)) × Bool × Bool × Bool)) : Nat → St → Prop := fun k s => ∃ (f0 : (List TListener)), ∃ (f1 : (List UInt8)), ∃ (f2 : Int), ∃ (f3 : Int), ∃ (f4 : Int), ∃ (f5 : (List UInt8)), ∃ (f6 : Bool), ∃ (f7 : Bool), ∃ (f8 : (List THeard)), ∃ (f9 : (List (Int × Int))), ∃ (f10 : Bool), ∃ (f11 : Bool), ∃ (f12 : Bool), ∃ (v8 : Int), ∃ (zf8 : Bool), (zf8 = true → f8 = []) ∧ F_ k f0 f1 f2 f3 f4 f5 f6 f7 f8 f9 f10 f11 f12 v8 = some o ∧ s = ⟨(upd (upd (upd (upd (fun _ => none) 0 (some (.c (.ro false 8 (s_.map e_TListener))))) 1 (some (.c (.fn (.func 21) [] [.ref 0 1 0 0])))) 7 (some (I (s_.length : Int)))) 8 (some (I v8))), (upd (upd (upd (upd (fun _ => none) 0 (some (.cells 1 [[.ref 1 13 0 0]]))) 1 (some (.cells 13 [[.ro false 8 (f0.map e_TListener), .str f1, cI f2, cI f3, cI f4, .str f5, cB f6, cB f7, lstC zf8 4 3 f8.length, .mp 3, cB f10, cB f11, cB f12]]))) 3 (mapB (.i .i64) (fun x => cI x) (fun (x : Int) => (I x)) f9)) 4 (lstB zf8 3 (f8.map e_THeard))), 5⟩
abbrev slices_IndexFunc_Listener_l0_H (s_ : (List TListener)) (F_ : (List TListener) → (List UInt8) → Int → Int → Int → (List UInt8) → Bool → Bool → (List THeard) → (List (Int × Int)) → Bool → Bool → Bool → Int → Option (Int × (List TListener) × (List UInt8) × Int × Int × Int × (List UInt8) × Bool × Bool × (List THeard) × (List (Int × Int)) × Bool × Bool × Bool)) (o : (Int × (List TListener) × (List UInt8) × Int × Int × Int × (List UInt8) × Bool × Bool × (List THeard) × (List (Int × Int)) × Bool × Bool × Bool)) (R_ : St → Prop) : Prop := ∀ (f0 : (List TListener)) (f1 : (List UInt8)) (f2 : Int) (f3 : Int) (f4 : Int) (f5 : (List UInt8)) (f6 : Bool) (f7 : Bool) (f8 : (List THeard)) (f9 : (List (Int × Int))) (f10 : Bool) (f11 : Bool) (f12 : Bool) (v8 : Int) (zf8 : Bool) (_ : zf8 = true → f8 = []), F_ f0 f1 f2 f3 f4 f5 f6 f7 f8 f9 f10 f11 f12 v8 = some o → ∀ s, Weak 4 s ⟨(upd (upd (upd (upd (fun _ => none) 0 (some (.c (.ro false 8 (s_.map e_TListener))))) 1 (some (.c (.fn (.func 21) [] [.ref 0 1 0 0])))) 7 (some (I (s_.length : Int)))) 8 (some (I v8))), (upd (upd (upd (upd (fun _ => none) 0 (some (.cells 1 [[.ref 1 13 0 0]]))) 1 (some (.cells 13 [[.ro false 8 (f0.map e_TListener), .str f1, cI f2, cI f3, cI f4, .str f5, cB f6, cB f7, lstC zf8 4 3 f8.length, .mp 3, cB f10, cB f11, cB f12]]))) 3 (mapB (.i .i64) (fun x => cI x) (fun (x : Int) => (I x)) f9)) 4 (lstB zf8 3 (f8.map e_THeard))), 5⟩ → R_ s
noncomputable def slices_IndexFunc_Listener_l0 (s_ : (List TListener)) (K0_ : (List TListener) → (List UInt8) → Int → Int → Int → (List UInt8) → Bool → Bool → (List THeard) → (List (Int × Int)) → Bool → Bool → Bool → Option (Int × (List TListener) × (List UInt8) × Int × Int × Int × (List UInt8) × Bool × Bool × (List THeard) × (List (Int × Int)) × Bool × Bool × Bool)) : Nat → (List TListener) → (List UInt8) → Int → Int → Int → (List UInt8) → Bool → Bool → (List THeard) → (List (Int × Int)) → Bool → Bool → Bool → Int → Option (Int × (List TListener) × (List UInt8) × Int × Int × Int × (List UInt8) × Bool × Bool × (List THeard) × (List (Int × Int)) × Bool × Bool × Bool)
  | 0, _, _, _, _, _, _, _, _, _, _, _, _, _, _ => none
  | k + 1, f0, f1, f2, f3, f4, f5, f6, f7, f8, f9, f10, f11, f12, v8 =>
    if decide (v8 < (s_.length : Int)) then
      (at? s_ v8).bind fun x_ =>
      (event_Send_fn1 x_ f0 f1 f2 f3 f4 f5 f6 f7 f8 f9 f10 f11 f12).bind fun r_ =>
      if r_.1 then
        some (v8, r_.2.1, r_.2.2.1, r_.2.2.2.1, r_.2.2.2.2.1, r_.2.2.2.2.2.1, r_.2.2.2.2.2.2.1, r_.2.2.2.2.2.2.2.1, r_.2.2.2.2.2.2.2.2.1, r_.2.2.2.2.2.2.2.2.2.1, r_.2.2.2.2.2.2.2.2.2.2.1, r_.2.2.2.2.2.2.2.2.2.2.2.1, r_.2.2.2.2.2.2.2.2.2.2.2.2.1, r_.2.2.2.2.2.2.2.2.2.2.2.2.2)
      else
        (slices_IndexFunc_Listener_l0 s_ K0_ k) r_.2.1 r_.2.2.1 r_.2.2.2.1 r_.2.2.2.2.1 r_.2.2.2.2.2.1 r_.2.2.2.2.2.2.1 r_.2.2.2.2.2.2.2.1 r_.2.2.2.2.2.2.2.2.1 r_.2.2.2.2.2.2.2.2.2.1 r_.2.2.2.2.2.2.2.2.2.2.1 r_.2.2.2.2.2.2.2.2.2.2.2.1 r_.2.2.2.2.2.2.2.2.2.2.2.2.1 r_.2.2.2.2.2.2.2.2.2.2.2.2.2 (wi (v8 + 1))
    else
      K0_ f0 f1 f2 f3 f4 f5 f6 f7 f8 f9 f10 f11 f12
theorem slices_IndexFunc_Listener_l0_ok {mL : Int} {Q : AExit → St → Prop} {s_ : (List TListener)} {K0_ : (List TListener) → (List UInt8) → Int → Int → Int → (List UInt8) → Bool → Bool → (List THeard) → (List (Int × Int)) → Bool → Bool → Bool → Option (Int × (List TListener) × (List UInt8) × Int × Int × Int × (List UInt8) × Bool × Bool × (List THeard) × (List (Int × Int)) × Bool × Bool × Bool)} {k : Nat} {f0 : (List TListener)} {f1 : (List UInt8)} {f2 : Int} {f3 : Int} {f4 : Int} {f5 : (List UInt8)} {f6 : Bool} {f7 : Bool} {f8 : (List THeard)} {f9 : (List (Int × Int))} {f10 : Bool} {f11 : Bool} {f12 : Bool} {v8 : Int} {zf8 : Bool} (hzf8 : zf8 = true → f8 = []) {o : (Int × (List TListener) × (List UInt8) × Int × Int × Int × (List UInt8) × Bool × Bool × (List THeard) × (List (Int × Int)) × Bool × Bool × Bool)} (h : slices_IndexFunc_Listener_l0 s_ K0_ k f0 f1 f2 f3 f4 f5 f6 f7 f8 f9 f10 f11 f12 v8 = some o)
    (hK0 : slices_IndexFunc_Listener_l0_E0 K0_ o (Q (.exit 0)))
    (hr : ∀ s, Ends a33.results 4 (slices_IndexFunc_Listener_post o) .ret s → Q .ret s) :
    Sv Tryd.prog (GG mL) 4 (.loop a33_c0) Q ⟨(upd (upd (upd (upd (fun _ => none) 0 (some (.c (.ro false 8 (s_.map e_TListener))))) 1 (some (.c (.fn (.func 21) [] [.ref 0 1 0 0])))) 7 (some (I (s_.length : Int)))) 8 (some (I v8))), (upd (upd (upd (upd (fun _ => none) 0 (some (.cells 1 [[.ref 1 13 0 0]]))) 1 (some (.cells 13 [[.ro false 8 (f0.map e_TListener), .str f1, cI f2, cI f3, cI f4, .str f5, cB f6, cB f7, lstC zf8 4 3 f8.length, .mp 3, cB f10, cB f11, cB f12]]))) 3 (mapB (.i .i64) (fun x => cI x) (fun (x : Int) => (I x)) f9)) 4 (lstB zf8 3 (f8.map e_THeard))), 5⟩ := by
  refine Sv.loop (I := slices_IndexFunc_Listener_l0_I s_ (slices_IndexFunc_Listener_l0 s_ K0_) o) (fun k s hI => ?_) ⟨f0, f1, f2, f3, f4, f5, f6, f7, f8, f9, f10, f11, f12, v8, zf8, hzf8, h, rfl⟩
  clear h
  clear hzf8 zf8 v8 f12 f11 f10 f9 f8 f7 f6 f5 f4 f3 f2 f1 f0
  obtain ⟨f0, f1, f2, f3, f4, f5, f6, f7, f8, f9, f10, f11, f12, v8, zf8, hzf8, h, rfl⟩ := hI
  cases k with
  | zero => cases h
  | succ k =>
  rw [slices_IndexFunc_Listener_l0] at h
  have hself : slices_IndexFunc_Listener_l0_H s_ (slices_IndexFunc_Listener_l0 s_ K0_ k) o (rnd 4 (slices_IndexFunc_Listener_l0_I s_ (slices_IndexFunc_Listener_l0 s_ K0_) o) k Q) := fun f0 f1 f2 f3 f4 f5 f6 f7 f8 f9 f10 f11 f12 v8 zf8 hzf8 h s hw => ⟨_, k, hw, Nat.lt_succ_self k, f0, f1, f2, f3, f4, f5, f6, f7, f8, f9, f10, f11, f12, v8, zf8, hzf8, h, rfl⟩
  refine Sv.seq ?_
  refine Sv.region ?_
  refine un (a1 (v := (B (decide (v8 < (s_.length : Int))))) rfl ?_)
  refine dnil ?_
  refine Sv.seq ?_
  refine Sv.cond (b := decide (v8 < (s_.length : Int))) rfl (fun hc1 => ?_) (fun hc1 => ?_)
  · replace h := ifT hc1 h
    refine Sv.skip ?_
    refine Sv.seq ?_
    refine Sv.block ?_
    refine Sv.seq ?_
    refine Sv.region ?_
    refine un (a1 rfl ?_)
    refine un (a1 rfl ?_)
    refine dnil ?_
    refine Sv.seq ?_
    refine Sv.region ?_
    refine un (a1 rfl ?_)
    refine un (a1 rfl ?_)
    refine un (a1 rfl ?_)
    obtain ⟨x_, hx1, h⟩ := bnd h
    refine un (a1 (v := (.c (.rop [cI x_.ID, cI x_.Node, .str x_.f_Type, cB x_.Capture, cB x_.Once, cB x_.Stops, cB x_.StopsAll, cB x_.Prevents]))) (s_iaddr (e := e_TListener) (xs := s_) rfl rfl hx1) ?_)
    refine un (a1 (v := (.agg [cI x_.ID, cI x_.Node, .str x_.f_Type, cB x_.Capture, cB x_.Once, cB x_.Stops, cB x_.StopsAll, cB x_.Prevents])) rfl ?_)
    obtain ⟨r_, hr1, h⟩ := bnd h
    refine un (acv_gen (bs := [0, 1, 4, 3]) («as» := [(.agg [cI x_.ID, cI x_.Node, .str x_.f_Type, cB x_.Capture, cB x_.Once, cB x_.Stops, cB x_.StopsAll, cB x_.Prevents]), (.c (.ref 0 1 0 0))]) (h2 := _) (h1 := (upd (upd (upd (upd (fun _ => none) 0 (some (.cells 1 [[.ref 1 13 0 0]]))) 1 (some (.cells 13 [[.ro false 8 (f0.map e_TListener), .str f1, cI f2, cI f3, cI f4, .str f5, cB f6, cB f7, lstC zf8 4 3 f8.length, .mp 3, cB f10, cB f11, cB f12]]))) 4 (lstB zf8 3 (f8.map e_THeard))) 3 (mapB (.i .i64) (fun x => cI x) (fun (x : Int) => (I x)) f9))) rfl (by kernel_rfl) (event_Send_fn1_ok hzf8 hr1) rfl (.cons (avAs_free rfl) (.cons (.c (.ref rfl (by decide))) .nil)) (hsub_refl _) (.cons rfl (.cons rfl (.cons rfl (.cons rfl (.nil _))))) (fun h => by cases h) (by decide) (by decide) (.cons (avAs_free rfl) (.cons (.c (.ref rfl (by decide))) .nil)) (.box (by decide) rfl .map (.row (by decide) rfl (fr_map fun _ => rfl) (.box (by decide) rfl (blkAs_cells (.cons (.same rfl) (.cons (.same rfl) (.cons (.same rfl) (.cons (.same rfl) (.cons (.same rfl) (.cons (.same rfl) (.cons (.same rfl) (.cons (.same rfl) (.cons (lstC_ren rfl (by decide)) (.cons (.mp rfl (by decide)) (.cons (.same rfl) (.cons (.same rfl) (.cons (.same rfl) .nil)))))))))))))) (.box (by decide) rfl (blkAs_cells (.cons (.ref rfl (by decide)) .nil)) .nil)))) ?_)
    rintro _ _ _ hn ⟨z_, hz_, rfl, rfl, rfl⟩
    refine ⟨.inl rfl, (upd (upd (upd (upd (rem [0, 1, 4, 3] _) 0 (some (.cells 1 [[.ref 1 13 0 0]]))) 1 (some (.cells 13 [[.ro false 8 (r_.2.1.map e_TListener), .str r_.2.2.1, cI r_.2.2.2.1, cI r_.2.2.2.2.1, cI r_.2.2.2.2.2.1, .str r_.2.2.2.2.2.2.1, cB r_.2.2.2.2.2.2.2.1, cB r_.2.2.2.2.2.2.2.2.1, lstC z_ 5 3 r_.2.2.2.2.2.2.2.2.2.1.length, .mp 3, cB r_.2.2.2.2.2.2.2.2.2.2.2.1, cB r_.2.2.2.2.2.2.2.2.2.2.2.2.1, cB r_.2.2.2.2.2.2.2.2.2.2.2.2.2]]))) 3 (mapB (.i .i64) (fun x => cI x) (fun (x : Int) => (I x)) r_.2.2.2.2.2.2.2.2.2.2.1)) 5 (lstB z_ 3 (r_.2.2.2.2.2.2.2.2.2.1.map e_THeard))), fun hbd => (m3_cons (m3_row rfl (fr_map fun _ => rfl)) (m3_cons (m3_box rfl rfl) (m3_cons (m3_box rfl (by cases z_ <;> rfl)) (m3_cons (m3_box rfl rfl) (m3_rem (in_cons (by decide) (in_cons (by decide) (in_cons (by decide) (in_cons (by decide) (in_nil _))))) (.cons (by decide) (.cons (by decide) (.cons (by decide) (.cons (by decide) .nil)))) hbd))))), (B r_.1), 6, (by cases z_ <;> rfl), rfl, ?_⟩
    refine dnil ?_
    refine Sv.cond (b := r_.1) rfl (fun hc2 => ?_) (fun hc2 => ?_)
    · replace h := ifT hc2 h
      refine Sv.seq ?_
      refine Sv.region ?_
      refine un (a1 rfl ?_)
      refine un (a1 rfl ?_)
      refine dnil ?_
      refine Sv.ret ?_
      replace h := Option.some.inj h
      subst h
      exact hr _ ⟨_, .refl _, _, rfl, ⟨upd (fun _ => none) 0 (some (I v8)), (upd (upd (upd (upd (fun _ => none) 0 (some (.cells 1 [[.ref 1 13 0 0]]))) 1 (some (.cells 13 [[.ro false 8 (r_.2.1.map e_TListener), .str r_.2.2.1, cI r_.2.2.2.1, cI r_.2.2.2.2.1, cI r_.2.2.2.2.2.1, .str r_.2.2.2.2.2.2.1, cB r_.2.2.2.2.2.2.2.1, cB r_.2.2.2.2.2.2.2.2.1, lstC z_ 4 3 r_.2.2.2.2.2.2.2.2.2.1.length, .mp 3, cB r_.2.2.2.2.2.2.2.2.2.2.2.1, cB r_.2.2.2.2.2.2.2.2.2.2.2.2.1, cB r_.2.2.2.2.2.2.2.2.2.2.2.2.2]]))) 3 (mapB (.i .i64) (fun x => cI x) (fun (x : Int) => (I x)) r_.2.2.2.2.2.2.2.2.2.2.1)) 4 (lstB z_ 3 (r_.2.2.2.2.2.2.2.2.2.1.map e_THeard))), 5⟩, (I v8), weak_canon2 [0, 1, 2, 3, 5] [0, 1, 3, 4] (by decide) (by decide) (by decide) (.cons (by decide) (.cons (by decide) (.cons (by decide) (.cons (by decide) .nil)))) (.cons rfl (avAs_free rfl) .nil) (.row (by decide) rfl (fr_map fun _ => rfl) (.box (by decide) rfl .map (.box (by decide) rfl (blkAs_cells (.cons (.same rfl) (.cons (.same rfl) (.cons (.same rfl) (.cons (.same rfl) (.cons (.same rfl) (.cons (.same rfl) (.cons (.same rfl) (.cons (.same rfl) (.cons (lstC_ren rfl (by decide)) (.cons (.mp rfl (by decide)) (.cons (.same rfl) (.cons (.same rfl) (.cons (.same rfl) .nil)))))))))))))) (.box (by decide) rfl (blkAs_cells (.cons (.ref rfl (by decide)) .nil)) .nil)))), rfl, z_, hz_, rfl, rfl, rfl⟩
    · replace h := ifF hc2 h
      refine Sv.skip ?_
      refine Sv.region ?_
      refine un (a1 (v := (I (wi (v8 + 1)))) rfl ?_)
      refine un (a1 rfl ?_)
      refine dnil ?_
      exact hself r_.2.1 r_.2.2.1 r_.2.2.2.1 r_.2.2.2.2.1 r_.2.2.2.2.2.1 r_.2.2.2.2.2.2.1 r_.2.2.2.2.2.2.2.1 r_.2.2.2.2.2.2.2.2.1 r_.2.2.2.2.2.2.2.2.2.1 r_.2.2.2.2.2.2.2.2.2.2.1 r_.2.2.2.2.2.2.2.2.2.2.2.1 r_.2.2.2.2.2.2.2.2.2.2.2.2.1 r_.2.2.2.2.2.2.2.2.2.2.2.2.2 (wi (v8 + 1)) z_ hz_ h _ (weak_canon [0, 1, 2, 3, 5] rfl (by decide) (by decide) (by decide) (.cons rfl (avAs_free rfl) (.cons rfl (avAs_free rfl) (.cons rfl (.c (fn_as .nil (.cons (.ref rfl (by decide)) .nil))) (.cons rfl (avAs_free rfl) .nil)))) (.row (by decide) rfl (fr_map fun _ => rfl) (.box (by decide) rfl .map (.box (by decide) rfl (blkAs_cells (.cons (.same rfl) (.cons (.same rfl) (.cons (.same rfl) (.cons (.same rfl) (.cons (.same rfl) (.cons (.same rfl) (.cons (.same rfl) (.cons (.same rfl) (.cons (lstC_ren rfl (by decide)) (.cons (.mp rfl (by decide)) (.cons (.same rfl) (.cons (.same rfl) (.cons (.same rfl) .nil)))))))))))))) (.box (by decide) rfl (blkAs_cells (.cons (.ref rfl (by decide)) .nil)) .nil)))))
  · replace h := ifF hc1 h
    refine Sv.exit ?_
    exact hK0 f0 f1 f2 f3 f4 f5 f6 f7 f8 f9 f10 f11 f12 zf8 hzf8 h _ (weak_canon [0, 1, 2, 3, 4] rfl (by decide) (by decide) (by decide) (.cons rfl (.c (fn_as .nil (.cons (.ref rfl (by decide)) .nil))) .nil) (.row (by decide) rfl (fr_map fun _ => rfl) (.box (by decide) rfl .map (.box (by decide) rfl (blkAs_cells (.cons (.same rfl) (.cons (.same rfl) (.cons (.same rfl) (.cons (.same rfl) (.cons (.same rfl) (.cons (.same rfl) (.cons (.same rfl) (.cons (.same rfl) (.cons (lstC_ren rfl (by decide)) (.cons (.mp rfl (by decide)) (.cons (.same rfl) (.cons (.same rfl) (.cons (.same rfl) .nil)))))))))))))) (.box (by decide) rfl (blkAs_cells (.cons (.ref rfl (by decide)) .nil)) .nil)))))
/-- slices.IndexFunc(()clerestory/api.Listener,clerestory/api.Listener) -/
noncomputable def slices_IndexFunc_Listener (s_ : (List TListener)) (fc00 : (List TListener)) (fc01 : (List UInt8)) (fc02 : Int) (fc03 : Int) (fc04 : Int) (fc05 : (List UInt8)) (fc06 : Bool) (fc07 : Bool) (fc08 : (List THeard)) (fc09 : (List (Int × Int))) (fc010 : Bool) (fc011 : Bool) (fc012 : Bool) : Option (Int × (List TListener) × (List UInt8) × Int × Int × Int × (List UInt8) × Bool × Bool × (List THeard) × (List (Int × Int)) × Bool × Bool × Bool) :=
  lim fun kk => slices_IndexFunc_Listener_l0 s_ (fun (f01 : (List TListener)) (f13 : (List UInt8)) (f21 : Int) (f31 : Int) (f41 : Int) (f51 : (List UInt8)) (f61 : Bool) (f71 : Bool) (f81 : (List THeard)) (f91 : (List (Int × Int))) (f101 : Bool) (f111 : Bool) (f121 : Bool) => 
      some ((-1), f01, f13, f21, f31, f41, f51, f61, f71, f81, f91, f101, f111, f121)) kk fc00 fc01 fc02 fc03 fc04 fc05 fc06 fc07 fc08 fc09 fc010 fc011 fc012 0
theorem slices_IndexFunc_Listener_ok {mL : Int} {s_ : (List TListener)} {fc00 : (List TListener)} {fc01 : (List UInt8)} {fc02 : Int} {fc03 : Int} {fc04 : Int} {fc05 : (List UInt8)} {fc06 : Bool} {fc07 : Bool} {fc08 : (List THeard)} {fc09 : (List (Int × Int))} {fc010 : Bool} {fc011 : Bool} {fc012 : Bool} {zfc0 : Bool} (hzfc0 : zfc0 = true → fc08 = []) {r : (Int × (List TListener) × (List UInt8) × Int × Int × Int × (List UInt8) × Bool × Bool × (List THeard) × (List (Int × Int)) × Bool × Bool × Bool)} (h : slices_IndexFunc_Listener s_ fc00 fc01 fc02 fc03 fc04 fc05 fc06 fc07 fc08 fc09 fc010 fc011 fc012 = some r) : ACalls Tryd.prog (GG mL) 33 [(.c (.ro false 8 (s_.map e_TListener))), (.c (.fn (.func 21) [] [.ref 0 1 0 0]))] (upd (upd (upd (upd (fun _ => none) 0 (some (.cells 1 [[.ref 1 13 0 0]]))) 1 (some (.cells 13 [[.ro false 8 (fc00.map e_TListener), .str fc01, cI fc02, cI fc03, cI fc04, .str fc05, cB fc06, cB fc07, lstC zfc0 2 3 fc08.length, .mp 3, cB fc010, cB fc011, cB fc012]]))) 2 (lstB zfc0 3 (fc08.map e_THeard))) 3 (mapB (.i .i64) (fun x => cI x) (fun (x : Int) => (I x)) fc09)) 4 (slices_IndexFunc_Listener_post r) := by
  refine acalls_of_sv hmix c33 (R := slices_IndexFunc_Listener_post r) ?_
  unfold slices_IndexFunc_Listener at h
  refine Sv.seq ?_
  refine Sv.region ?_
  refine un (a1 rfl ?_)
  refine dnil ?_
  refine Sv.seq ?_
  refine Sv.seq ?_
  refine Sv.region ?_
  refine un (a1 rfl ?_)
  refine un (a1 (v := (I (s_.length : Int))) (s_len (e := e_TListener) (xs := s_) rfl) ?_)
  refine un (a1 rfl ?_)
  refine dnil ?_
  refine Sv.block ?_
  obtain ⟨kk, h⟩ := lim_some h
  refine Sv.weak (weak_canon2 [0, 1, 2, 3, 2] [0, 1, 3, 4] (by decide) (by decide) (by decide) (.cons (by decide) (.cons (by decide) (.cons (by decide) (.cons (by decide) .nil)))) (.cons rfl (avAs_free rfl) (.cons rfl (avAs_free rfl) (.cons rfl (.c (fn_as .nil (.cons (.ref rfl (by decide)) .nil))) (.cons rfl (avAs_free rfl) .nil)))) (.row (by decide) rfl (fr_map fun _ => rfl) (.box (by decide) rfl .map (.box (by decide) rfl (blkAs_cells (.cons (.same rfl) (.cons (.same rfl) (.cons (.same rfl) (.cons (.same rfl) (.cons (.same rfl) (.cons (.same rfl) (.cons (.same rfl) (.cons (.same rfl) (.cons (lstC_ren rfl (by decide)) (.cons (.mp rfl (by decide)) (.cons (.same rfl) (.cons (.same rfl) (.cons (.same rfl) .nil)))))))))))))) (.box (by decide) rfl (blkAs_cells (.cons (.ref rfl (by decide)) .nil)) .nil))))) (slices_IndexFunc_Listener_l0_ok hzfc0 h ?_ (fun s hs => hs))
  · intro f01 f13 f21 f31 f41 f51 f61 f71 f81 f91 f101 f111 f121 zf81 hzf81 h _ hw1
    refine Sv.weak hw1 ?_
    refine Sv.seq ?_
    refine Sv.region ?_
    refine un (a1 rfl ?_)
    refine dnil ?_
    refine Sv.ret ?_
    replace h := Option.some.inj h
    subst h
    exact ⟨_, .refl _, _, rfl, ⟨upd (fun _ => none) 0 (some (I (-1))), (upd (upd (upd (upd (fun _ => none) 0 (some (.cells 1 [[.ref 1 13 0 0]]))) 1 (some (.cells 13 [[.ro false 8 (f01.map e_TListener), .str f13, cI f21, cI f31, cI f41, .str f51, cB f61, cB f71, lstC zf81 4 3 f81.length, .mp 3, cB f101, cB f111, cB f121]]))) 3 (mapB (.i .i64) (fun x => cI x) (fun (x : Int) => (I x)) f91)) 4 (lstB zf81 3 (f81.map e_THeard))), 5⟩, (I (-1)), weak_canon2 [0, 1, 2, 3, 4] [0, 1, 3, 4] (by decide) (by decide) (by decide) (.cons (by decide) (.cons (by decide) (.cons (by decide) (.cons (by decide) .nil)))) (.cons rfl (avAs_free rfl) .nil) (.row (by decide) rfl (fr_map fun _ => rfl) (.box (by decide) rfl .map (.box (by decide) rfl (blkAs_cells (.cons (.same rfl) (.cons (.same rfl) (.cons (.same rfl) (.cons (.same rfl) (.cons (.same rfl) (.cons (.same rfl) (.cons (.same rfl) (.cons (.same rfl) (.cons (lstC_ren rfl (by decide)) (.cons (.mp rfl (by decide)) (.cons (.same rfl) (.cons (.same rfl) (.cons (.same rfl) .nil)))))))))))))) (.box (by decide) rfl (blkAs_cells (.cons (.ref rfl (by decide)) .nil)) .nil)))), rfl, zf81, hzf81, rfl, rfl, rfl⟩
def a33_slices_IndexFunc_Listener1_c0 : ACode := (.seq (.region [⟨(some 9), (.bin .lss (.tmp 8) (.tmp 7)), none⟩])
 (.seq (.cond (.tmp 9) .skip (.exit 0))
 (.seq (.block 1 (.seq (.region [⟨(some 10), (.mov (.tmp 8)), none⟩, ⟨(some 5), (.mov (.tmp 10)), none⟩])
 (.seq (.region [⟨(some 11), (.mov (.tmp 1)), none⟩, ⟨(some 12), (.mov (.tmp 0)), none⟩, ⟨(some 13), (.mov (.tmp 5)), none⟩, ⟨(some 14), (.iaddr 8 (.tmp 12) (.tmp 13)), none⟩, ⟨(some 15), (.load true 8 (.tmp 14)), none⟩, ⟨(some 16), (.callv (.tmp 11) [(.tmp 15)]), none⟩])
 (.cond (.tmp 16) (.seq (.region [⟨(some 17), (.mov (.tmp 5)), none⟩, ⟨(some 4), (.mov (.tmp 17)), none⟩])
 .ret) .skip))))
 (.region [⟨(some 18), (.bin .add (.tmp 8) (.const (.c (.val (.int .i64 1))))), none⟩, ⟨(some 8), (.mov (.tmp 18)), none⟩]))))
def slices_IndexFunc_Listener1_post (zs : Bool) (r : (Int × (List TListener) × (List TListener) × (List UInt8) × Int × Int × Int × (List UInt8) × Bool × Bool × (List THeard) × (List (Int × Int)) × Bool × Bool × Bool)) : AV → Heap → Nat → Prop := fun v h' n' => ∃ z0 : Bool, (z0 = true → r.2.2.2.2.2.2.2.2.2.2.1 = []) ∧ v = (I r.1) ∧ (h' = (upd (upd (upd (upd (upd (fun _ => none) 0 (lstB zs 8 (r.2.1.map e_TListener))) 1 (some (.cells 1 [[.ref 2 13 0 0]]))) 2 (some (.cells 13 [[.ro false 8 (r.2.2.1.map e_TListener), .str r.2.2.2.1, cI r.2.2.2.2.1, cI r.2.2.2.2.2.1, cI r.2.2.2.2.2.2.1, .str r.2.2.2.2.2.2.2.1, cB r.2.2.2.2.2.2.2.2.1, cB r.2.2.2.2.2.2.2.2.2.1, lstC z0 5 3 r.2.2.2.2.2.2.2.2.2.2.1.length, .mp 4, cB r.2.2.2.2.2.2.2.2.2.2.2.2.1, cB r.2.2.2.2.2.2.2.2.2.2.2.2.2.1, cB r.2.2.2.2.2.2.2.2.2.2.2.2.2.2]]))) 4 (mapB (.i .i64) (fun x => cI x) (fun (x : Int) => (I x)) r.2.2.2.2.2.2.2.2.2.2.2.1)) 5 (lstB z0 3 (r.2.2.2.2.2.2.2.2.2.2.1.map e_THeard)))) ∧ n' = 6
abbrev slices_IndexFunc_Listener1_l0_E0 (zs : Bool) (s_ : (List TListener)) (F_ : (List TListener) → (List UInt8) → Int → Int → Int → (List UInt8) → Bool → Bool → (List THeard) → (List (Int × Int)) → Bool → Bool → Bool → Option (Int × (List TListener) × (List TListener) × (List UInt8) × Int × Int × Int × (List UInt8) × Bool × Bool × (List THeard) × (List (Int × Int)) × Bool × Bool × Bool)) (o : (Int × (List TListener) × (List TListener) × (List UInt8) × Int × Int × Int × (List UInt8) × Bool × Bool × (List THeard) × (List (Int × Int)) × Bool × Bool × Bool)) (R_ : St → Prop) : Prop := ∀ (f01 : (List TListener)) (f13 : (List UInt8)) (f21 : Int) (f31 : Int) (f41 : Int) (f51 : (List UInt8)) (f61 : Bool) (f71 : Bool) (f81 : (List THeard)) (f91 : (List (Int × Int))) (f101 : Bool) (f111 : Bool) (f121 : Bool) (zf81 : Bool) (_ : zf81 = true → f81 = []), F_ f01 f13 f21 f31 f41 f51 f61 f71 f81 f91 f101 f111 f121 = some o → ∀ s, Weak 5 s ⟨(upd (upd (fun _ => none) 0 (some (lstV zs 0 8 s_.length))) 1 (some (.c (.fn (.func 21) [] [.ref 1 1 0 0])))), (upd (upd (upd (upd (upd (fun _ => none) 0 (lstB zs 8 (s_.map e_TListener))) 1 (some (.cells 1 [[.ref 2 13 0 0]]))) 2 (some (.cells 13 [[.ro false 8 (f01.map e_TListener), .str f13, cI f21, cI f31, cI f41, .str f51, cB f61, cB f71, lstC zf81 5 3 f81.length, .mp 4, cB f101, cB f111, cB f121]]))) 4 (mapB (.i .i64) (fun x => cI x) (fun (x : Int) => (I x)) f91)) 5 (lstB zf81 3 (f81.map e_THeard))), 6⟩ → R_ s
abbrev slices_IndexFunc_Listener1_l0_I (zs : Bool) (s_ : (List TListener)) (F_ : Nat → (List TListener) → (List UInt8) → Int → Int → Int → (List UInt8) → Bool → Bool → (List THeard) → (List (Int × Int)) → Bool → Bool → Bool → Int → Option (Int × (List TListener) × (List TListener) × (List UInt8) × Int × Int × Int × (List UInt8) × Bool × Bool × (List THeard) × (List (Int × Int)) × Bool × Bool × Bool)) (o : (Int × (List TListener) × (List TListener) × (List UInt8) × Int × Int × Int × (List UInt8) × Bool × Bool × (List THeard) × (List (Int × Int)) × Bool × Bool × Bool)) : Nat → St → Prop := fun k s => ∃ (f0 : (List TListener)), ∃ (f1 : (List UInt8)), ∃ (f2 : Int), ∃ (f3 : Int), ∃ (f4 : Int), ∃ (f5 : (List UInt8)), ∃ (f6 : Bool), ∃ (f7 : Bool), ∃ (f8 : (List THeard)), ∃ (f9 : (List (Int × Int))), ∃ (f10 : Bool), ∃ (f11 : Bool), ∃ (f12 : Bool), ∃ (v8 : Int), ∃ (zf8 : Bool), (zf8 = true → f8 = []) ∧ F_ k f0 f1 f2 f3 f4 f5 f6 f7 f8 f9 f10 f11 f12 v8 = some o ∧ s = ⟨(upd (upd (upd (upd (fun _ => none) 0 (some (lstV zs 0 8 s_.length))) 1 (some (.c (.fn (.func 21) [] [.ref 1 1 0 0])))) 7 (some (I (s_.length : Int)))) 8 (some (I v8))), (upd (upd (upd (upd (upd (fun _ => none) 0 (lstB zs 8 (s_.map e_TListener))) 1 (some (.cells 1 [[.ref 2 13 0 0]]))) 2 (some (.cells 13 [[.ro false 8 (f0.map e_TListener), .str f1, cI f2, cI f3, cI f4, .str f5, cB f6, cB f7, lstC zf8 5 3 f8.length, .mp 4, cB f10, cB f11, cB f12]]))) 4 (mapB (.i .i64) (fun x => cI x) (fun (x : Int) => (I x)) f9)) 5 (lstB zf8 3 (f8.map e_THeard))), 6⟩
abbrev slices_IndexFunc_Listener1_l0_H (zs : Bool) (s_ : (List TListener)) (F_ : (List TListener) → (List UInt8) → Int → Int → Int → (List UInt8) → Bool → Bool → (List THeard) → (List (Int × Int)) → Bool → Bool → Bool → Int → Option (Int × (List TListener) × (List TListener) × (List UInt8) × Int × Int × Int × (List UInt8) × Bool × Bool × (List THeard) × (List (Int × Int)) × Bool × Bool × Bool)) (o : (Int × (List TListener) × (List TListener) × (List UInt8) × Int × Int × Int × (List UInt8) × Bool × Bool × (List THeard) × (List (Int × Int)) × Bool × Bool × Bool)) (R_ : St → Prop) : Prop := ∀ (f0 : (List TListener)) (f1 : (List UInt8)) (f2 : Int) (f3 : Int) (f4 : Int) (f5 : (List UInt8)) (f6 : Bool) (f7 : Bool) (f8 : (List THeard)) (f9 : (List (Int × Int))) (f10 : Bool) (f11 : Bool) (f12 : Bool) (v8 : Int) (zf8 : Bool) (_ : zf8 = true → f8 = []), F_ f0 f1 f2 f3 f4 f5 f6 f7 f8 f9 f10 f11 f12 v8 = some o → ∀ s, Weak 5 s ⟨(upd (upd (upd (upd (fun _ => none) 0 (some (lstV zs 0 8 s_.length))) 1 (some (.c (.fn (.func 21) [] [.ref 1 1 0 0])))) 7 (some (I (s_.length : Int)))) 8 (some (I v8))), (upd (upd (upd (upd (upd (fun _ => none) 0 (lstB zs 8 (s_.map e_TListener))) 1 (some (.cells 1 [[.ref 2 13 0 0]]))) 2 (some (.cells 13 [[.ro false 8 (f0.map e_TListener), .str f1, cI f2, cI f3, cI f4, .str f5, cB f6, cB f7, lstC zf8 5 3 f8.length, .mp 4, cB f10, cB f11, cB f12]]))) 4 (mapB (.i .i64) (fun x => cI x) (fun (x : Int) => (I x)) f9)) 5 (lstB zf8 3 (f8.map e_THeard))), 6⟩ → R_ s
noncomputable def slices_IndexFunc_Listener1_l0 (s_ : (List TListener)) (K0_ : (List TListener) → (List UInt8) → Int → Int → Int → (List UInt8) → Bool → Bool → (List THeard) → (List (Int × Int)) → Bool → Bool → Bool → Option (Int × (List TListener) × (List TListener) × (List UInt8) × Int × Int × Int × (List UInt8) × Bool × Bool × (List THeard) × (List (Int × Int)) × Bool × Bool × Bool)) : Nat → (List TListener) → (List UInt8) → Int → Int → Int → (List UInt8) → Bool → Bool → (List THeard) → (List (Int × Int)) → Bool → Bool → Bool → Int → Option (Int × (List TListener) × (List TListener) × (List UInt8) × Int × Int × Int × (List UInt8) × Bool × Bool × (List THeard) × (List (Int × Int)) × Bool × Bool × Bool)
  | 0, _, _, _, _, _, _, _, _, _, _, _, _, _, _ => none
  | k + 1, f0, f1, f2, f3, f4, f5, f6, f7, f8, f9, f10, f11, f12, v8 =>
    if decide (v8 < (s_.length : Int)) then
      (at? s_ v8).bind fun x_ =>
      (event_Send_fn1 x_ f0 f1 f2 f3 f4 f5 f6 f7 f8 f9 f10 f11 f12).bind fun r_ =>
      if r_.1 then
        some (v8, s_, r_.2.1, r_.2.2.1, r_.2.2.2.1, r_.2.2.2.2.1, r_.2.2.2.2.2.1, r_.2.2.2.2.2.2.1, r_.2.2.2.2.2.2.2.1, r_.2.2.2.2.2.2.2.2.1, r_.2.2.2.2.2.2.2.2.2.1, r_.2.2.2.2.2.2.2.2.2.2.1, r_.2.2.2.2.2.2.2.2.2.2.2.1, r_.2.2.2.2.2.2.2.2.2.2.2.2.1, r_.2.2.2.2.2.2.2.2.2.2.2.2.2)
      else
        (slices_IndexFunc_Listener1_l0 s_ K0_ k) r_.2.1 r_.2.2.1 r_.2.2.2.1 r_.2.2.2.2.1 r_.2.2.2.2.2.1 r_.2.2.2.2.2.2.1 r_.2.2.2.2.2.2.2.1 r_.2.2.2.2.2.2.2.2.1 r_.2.2.2.2.2.2.2.2.2.1 r_.2.2.2.2.2.2.2.2.2.2.1 r_.2.2.2.2.2.2.2.2.2.2.2.1 r_.2.2.2.2.2.2.2.2.2.2.2.2.1 r_.2.2.2.2.2.2.2.2.2.2.2.2.2 (wi (v8 + 1))
    else
      K0_ f0 f1 f2 f3 f4 f5 f6 f7 f8 f9 f10 f11 f12
theorem slices_IndexFunc_Listener1_l0_ok {mL : Int} {Q : AExit → St → Prop} {zs : Bool} {s_ : (List TListener)} {K0_ : (List TListener) → (List UInt8) → Int → Int → Int → (List UInt8) → Bool → Bool → (List THeard) → (List (Int × Int)) → Bool → Bool → Bool → Option (Int × (List TListener) × (List TListener) × (List UInt8) × Int × Int × Int × (List UInt8) × Bool × Bool × (List THeard) × (List (Int × Int)) × Bool × Bool × Bool)} (hzs : zs = true → s_ = []) {k : Nat} {f0 : (List TListener)} {f1 : (List UInt8)} {f2 : Int} {f3 : Int} {f4 : Int} {f5 : (List UInt8)} {f6 : Bool} {f7 : Bool} {f8 : (List THeard)} {f9 : (List (Int × Int))} {f10 : Bool} {f11 : Bool} {f12 : Bool} {v8 : Int} {zf8 : Bool} (hzf8 : zf8 = true → f8 = []) {o : (Int × (List TListener) × (List TListener) × (List UInt8) × Int × Int × Int × (List UInt8) × Bool × Bool × (List THeard) × (List (Int × Int)) × Bool × Bool × Bool)} (h : slices_IndexFunc_Listener1_l0 s_ K0_ k f0 f1 f2 f3 f4 f5 f6 f7 f8 f9 f10 f11 f12 v8 = some o)
    (hK0 : slices_IndexFunc_Listener1_l0_E0 zs s_ K0_ o (Q (.exit 0)))
    (hr : ∀ s, Ends a33.results 5 (slices_IndexFunc_Listener1_post zs o) .ret s → Q .ret s) :
    Sv Tryd.prog (GG mL) 5 (.loop a33_slices_IndexFunc_Listener1_c0) Q ⟨(upd (upd (upd (upd (fun _ => none) 0 (some (lstV zs 0 8 s_.length))) 1 (some (.c (.fn (.func 21) [] [.ref 1 1 0 0])))) 7 (some (I (s_.length : Int)))) 8 (some (I v8))), (upd (upd (upd (upd (upd (fun _ => none) 0 (lstB zs 8 (s_.map e_TListener))) 1 (some (.cells 1 [[.ref 2 13 0 0]]))) 2 (some (.cells 13 [[.ro false 8 (f0.map e_TListener), .str f1, cI f2, cI f3, cI f4, .str f5, cB f6, cB f7, lstC zf8 5 3 f8.length, .mp 4, cB f10, cB f11, cB f12]]))) 4 (mapB (.i .i64) (fun x => cI x) (fun (x : Int) => (I x)) f9)) 5 (lstB zf8 3 (f8.map e_THeard))), 6⟩ := by
  refine Sv.loop (I := slices_IndexFunc_Listener1_l0_I zs s_ (slices_IndexFunc_Listener1_l0 s_ K0_) o) (fun k s hI => ?_) ⟨f0, f1, f2, f3, f4, f5, f6, f7, f8, f9, f10, f11, f12, v8, zf8, hzf8, h, rfl⟩
  clear h
  clear hzf8 zf8 v8 f12 f11 f10 f9 f8 f7 f6 f5 f4 f3 f2 f1 f0
  obtain ⟨f0, f1, f2, f3, f4, f5, f6, f7, f8, f9, f10, f11, f12, v8, zf8, hzf8, h, rfl⟩ := hI
  cases k with
  | zero => cases h
  | succ k =>
  rw [slices_IndexFunc_Listener1_l0] at h
  have hself : slices_IndexFunc_Listener1_l0_H zs s_ (slices_IndexFunc_Listener1_l0 s_ K0_ k) o (rnd 5 (slices_IndexFunc_Listener1_l0_I zs s_ (slices_IndexFunc_Listener1_l0 s_ K0_) o) k Q) := fun f0 f1 f2 f3 f4 f5 f6 f7 f8 f9 f10 f11 f12 v8 zf8 hzf8 h s hw => ⟨_, k, hw, Nat.lt_succ_self k, f0, f1, f2, f3, f4, f5, f6, f7, f8, f9, f10, f11, f12, v8, zf8, hzf8, h, rfl⟩
  refine Sv.seq ?_
  refine Sv.region ?_
  refine un (a1 (v := (B (decide (v8 < (s_.length : Int))))) rfl ?_)
  refine dnil ?_
  refine Sv.seq ?_
  refine Sv.cond (b := decide (v8 < (s_.length : Int))) rfl (fun hc1 => ?_) (fun hc1 => ?_)
  · replace h := ifT hc1 h
    refine Sv.skip ?_
    refine Sv.seq ?_
    refine Sv.block ?_
    refine Sv.seq ?_
    refine Sv.region ?_
    refine un (a1 rfl ?_)
    refine un (a1 rfl ?_)
    refine dnil ?_
    refine Sv.seq ?_
    refine Sv.region ?_
    refine un (a1 rfl ?_)
    refine un (a1 rfl ?_)
    refine un (a1 rfl ?_)
    obtain ⟨x_, hx1, h⟩ := bnd h
    refine un (a1 (v := (.c (.ref 0 8 v8.toNat 0))) (s_iaddrL rfl rfl hzs hx1) ?_)
    refine un (a1 (v := (.agg [cI x_.ID, cI x_.Node, .str x_.f_Type, cB x_.Capture, cB x_.Once, cB x_.Stops, cB x_.StopsAll, cB x_.Prevents])) (s_loadL (z := zs) (e := e_TListener) rfl rfl hzs hx1 rfl rfl) ?_)
    obtain ⟨r_, hr1, h⟩ := bnd h
    refine un (acv_gen (bs := [1, 2, 5, 4]) («as» := [(.agg [cI x_.ID, cI x_.Node, .str x_.f_Type, cB x_.Capture, cB x_.Once, cB x_.Stops, cB x_.StopsAll, cB x_.Prevents]), (.c (.ref 1 1 0 0))]) (h2 := _) (h1 := (upd (upd (upd (upd (fun _ => none) 1 (some (.cells 1 [[.ref 2 13 0 0]]))) 2 (some (.cells 13 [[.ro false 8 (f0.map e_TListener), .str f1, cI f2, cI f3, cI f4, .str f5, cB f6, cB f7, lstC zf8 5 3 f8.length, .mp 4, cB f10, cB f11, cB f12]]))) 5 (lstB zf8 3 (f8.map e_THeard))) 4 (mapB (.i .i64) (fun x => cI x) (fun (x : Int) => (I x)) f9))) rfl (by kernel_rfl) (event_Send_fn1_ok hzf8 hr1) rfl (.cons (avAs_free rfl) (.cons (.c (.ref rfl (by decide))) .nil)) (hsub_refl _) (.cons rfl (.cons rfl (.cons rfl (.cons rfl (.nil _))))) (fun h => by cases h) (by decide) (by decide) (.cons (avAs_free rfl) (.cons (.c (.ref rfl (by decide))) .nil)) (.box (by decide) rfl .map (.row (by decide) rfl (fr_map fun _ => rfl) (.box (by decide) rfl (blkAs_cells (.cons (.same rfl) (.cons (.same rfl) (.cons (.same rfl) (.cons (.same rfl) (.cons (.same rfl) (.cons (.same rfl) (.cons (.same rfl) (.cons (.same rfl) (.cons (lstC_ren rfl (by decide)) (.cons (.mp rfl (by decide)) (.cons (.same rfl) (.cons (.same rfl) (.cons (.same rfl) .nil)))))))))))))) (.box (by decide) rfl (blkAs_cells (.cons (.ref rfl (by decide)) .nil)) .nil)))) ?_)
    rintro _ _ _ hn ⟨z_, hz_, rfl, rfl, rfl⟩
    refine ⟨.inl rfl, (upd (upd (upd (upd (rem [1, 2, 5, 4] _) 1 (some (.cells 1 [[.ref 2 13 0 0]]))) 2 (some (.cells 13 [[.ro false 8 (r_.2.1.map e_TListener), .str r_.2.2.1, cI r_.2.2.2.1, cI r_.2.2.2.2.1, cI r_.2.2.2.2.2.1, .str r_.2.2.2.2.2.2.1, cB r_.2.2.2.2.2.2.2.1, cB r_.2.2.2.2.2.2.2.2.1, lstC z_ 6 3 r_.2.2.2.2.2.2.2.2.2.1.length, .mp 4, cB r_.2.2.2.2.2.2.2.2.2.2.2.1, cB r_.2.2.2.2.2.2.2.2.2.2.2.2.1, cB r_.2.2.2.2.2.2.2.2.2.2.2.2.2]]))) 4 (mapB (.i .i64) (fun x => cI x) (fun (x : Int) => (I x)) r_.2.2.2.2.2.2.2.2.2.2.1)) 6 (lstB z_ 3 (r_.2.2.2.2.2.2.2.2.2.1.map e_THeard))), fun hbd => (m3_cons (m3_row rfl (fr_map fun _ => rfl)) (m3_cons (m3_box rfl rfl) (m3_cons (m3_box rfl (by cases z_ <;> rfl)) (m3_cons (m3_box rfl rfl) (m3_rem (in_cons (by decide) (in_cons (by decide) (in_cons (by decide) (in_cons (by decide) (in_nil _))))) (.cons (by decide) (.cons (by decide) (.cons (by decide) (.cons (by decide) .nil)))) hbd))))), (B r_.1), 7, (by cases z_ <;> rfl), rfl, ?_⟩
    refine dnil ?_
    refine Sv.cond (b := r_.1) rfl (fun hc2 => ?_) (fun hc2 => ?_)
    · replace h := ifT hc2 h
      refine Sv.seq ?_
      refine Sv.region ?_
      refine un (a1 rfl ?_)
      refine un (a1 rfl ?_)
      refine dnil ?_
      refine Sv.ret ?_
      replace h := Option.some.inj h
      subst h
      exact hr _ ⟨_, .refl _, _, rfl, ⟨upd (fun _ => none) 0 (some (I v8)), (upd (upd (upd (upd (upd (fun _ => none) 0 (lstB zs 8 (s_.map e_TListener))) 1 (some (.cells 1 [[.ref 2 13 0 0]]))) 2 (some (.cells 13 [[.ro false 8 (r_.2.1.map e_TListener), .str r_.2.2.1, cI r_.2.2.2.1, cI r_.2.2.2.2.1, cI r_.2.2.2.2.2.1, .str r_.2.2.2.2.2.2.1, cB r_.2.2.2.2.2.2.2.1, cB r_.2.2.2.2.2.2.2.2.1, lstC z_ 5 3 r_.2.2.2.2.2.2.2.2.2.1.length, .mp 4, cB r_.2.2.2.2.2.2.2.2.2.2.2.1, cB r_.2.2.2.2.2.2.2.2.2.2.2.2.1, cB r_.2.2.2.2.2.2.2.2.2.2.2.2.2]]))) 4 (mapB (.i .i64) (fun x => cI x) (fun (x : Int) => (I x)) r_.2.2.2.2.2.2.2.2.2.2.1)) 5 (lstB z_ 3 (r_.2.2.2.2.2.2.2.2.2.1.map e_THeard))), 6⟩, (I v8), weak_canon2 [0, 1, 2, 3, 4, 6] [0, 1, 2, 4, 5] (by decide) (by decide) (by decide) (.cons (by decide) (.cons (by decide) (.cons (by decide) (.cons (by decide) (.cons (by decide) .nil))))) (.cons rfl (avAs_free rfl) .nil) (.row (by decide) rfl (fr_map fun _ => rfl) (.box (by decide) rfl .map (.box (by decide) rfl (blkAs_cells (.cons (.same rfl) (.cons (.same rfl) (.cons (.same rfl) (.cons (.same rfl) (.cons (.same rfl) (.cons (.same rfl) (.cons (.same rfl) (.cons (.same rfl) (.cons (lstC_ren rfl (by decide)) (.cons (.mp rfl (by decide)) (.cons (.same rfl) (.cons (.same rfl) (.cons (.same rfl) .nil)))))))))))))) (.box (by decide) rfl (blkAs_cells (.cons (.ref rfl (by decide)) .nil)) (.row (by decide) rfl (fr_map fun _ => rfl) .nil))))), rfl, z_, hz_, rfl, rfl, rfl⟩
    · replace h := ifF hc2 h
      refine Sv.skip ?_
      refine Sv.region ?_
      refine un (a1 (v := (I (wi (v8 + 1)))) rfl ?_)
      refine un (a1 rfl ?_)
      refine dnil ?_
      exact hself r_.2.1 r_.2.2.1 r_.2.2.2.1 r_.2.2.2.2.1 r_.2.2.2.2.2.1 r_.2.2.2.2.2.2.1 r_.2.2.2.2.2.2.2.1 r_.2.2.2.2.2.2.2.2.1 r_.2.2.2.2.2.2.2.2.2.1 r_.2.2.2.2.2.2.2.2.2.2.1 r_.2.2.2.2.2.2.2.2.2.2.2.1 r_.2.2.2.2.2.2.2.2.2.2.2.2.1 r_.2.2.2.2.2.2.2.2.2.2.2.2.2 (wi (v8 + 1)) z_ hz_ h _ (weak_canon [0, 1, 2, 3, 4, 6] rfl (by decide) (by decide) (by decide) (.cons rfl (avAs_free rfl) (.cons rfl (avAs_free rfl) (.cons rfl (.c (fn_as .nil (.cons (.ref rfl (by decide)) .nil))) (.cons rfl (.c (lstC_ren rfl (by decide))) .nil)))) (.row (by decide) rfl (fr_map fun _ => rfl) (.box (by decide) rfl .map (.box (by decide) rfl (blkAs_cells (.cons (.same rfl) (.cons (.same rfl) (.cons (.same rfl) (.cons (.same rfl) (.cons (.same rfl) (.cons (.same rfl) (.cons (.same rfl) (.cons (.same rfl) (.cons (lstC_ren rfl (by decide)) (.cons (.mp rfl (by decide)) (.cons (.same rfl) (.cons (.same rfl) (.cons (.same rfl) .nil)))))))))))))) (.box (by decide) rfl (blkAs_cells (.cons (.ref rfl (by decide)) .nil)) (.row (by decide) rfl (fr_map fun _ => rfl) .nil))))))
  · replace h := ifF hc1 h
    refine Sv.exit ?_
    exact hK0 f0 f1 f2 f3 f4 f5 f6 f7 f8 f9 f10 f11 f12 zf8 hzf8 h _ (weak_canon [0, 1, 2, 3, 4, 5] rfl (by decide) (by decide) (by decide) (.cons rfl (.c (fn_as .nil (.cons (.ref rfl (by decide)) .nil))) (.cons rfl (.c (lstC_ren rfl (by decide))) .nil)) (.row (by decide) rfl (fr_map fun _ => rfl) (.box (by decide) rfl .map (.box (by decide) rfl (blkAs_cells (.cons (.same rfl) (.cons (.same rfl) (.cons (.same rfl) (.cons (.same rfl) (.cons (.same rfl) (.cons (.same rfl) (.cons (.same rfl) (.cons (.same rfl) (.cons (lstC_ren rfl (by decide)) (.cons (.mp rfl (by decide)) (.cons (.same rfl) (.cons (.same rfl) (.cons (.same rfl) .nil)))))))))))))) (.box (by decide) rfl (blkAs_cells (.cons (.ref rfl (by decide)) .nil)) (.row (by decide) rfl (fr_map fun _ => rfl) .nil))))))
/-- slices.IndexFunc(()clerestory/api.Listener,clerestory/api.Listener) -/
noncomputable def slices_IndexFunc_Listener1 (s_ : (List TListener)) (fc00 : (List TListener)) (fc01 : (List UInt8)) (fc02 : Int) (fc03 : Int) (fc04 : Int) (fc05 : (List UInt8)) (fc06 : Bool) (fc07 : Bool) (fc08 : (List THeard)) (fc09 : (List (Int × Int))) (fc010 : Bool) (fc011 : Bool) (fc012 : Bool) : Option (Int × (List TListener) × (List TListener) × (List UInt8) × Int × Int × Int × (List UInt8) × Bool × Bool × (List THeard) × (List (Int × Int)) × Bool × Bool × Bool) :=
  lim fun kk => slices_IndexFunc_Listener1_l0 s_ (fun (f01 : (List TListener)) (f13 : (List UInt8)) (f21 : Int) (f31 : Int) (f41 : Int) (f51 : (List UInt8)) (f61 : Bool) (f71 : Bool) (f81 : (List THeard)) (f91 : (List (Int × Int))) (f101 : Bool) (f111 : Bool) (f121 : Bool) => 
      some ((-1), s_, f01, f13, f21, f31, f41, f51, f61, f71, f81, f91, f101, f111, f121)) kk fc00 fc01 fc02 fc03 fc04 fc05 fc06 fc07 fc08 fc09 fc010 fc011 fc012 0
theorem slices_IndexFunc_Listener1_ok {mL : Int} {s_ : (List TListener)} {fc00 : (List TListener)} {fc01 : (List UInt8)} {fc02 : Int} {fc03 : Int} {fc04 : Int} {fc05 : (List UInt8)} {fc06 : Bool} {fc07 : Bool} {fc08 : (List THeard)} {fc09 : (List (Int × Int))} {fc010 : Bool} {fc011 : Bool} {fc012 : Bool} {zs : Bool} (hzs : zs = true → s_ = []) {zfc0 : Bool} (hzfc0 : zfc0 = true → fc08 = []) {r : (Int × (List TListener) × (List TListener) × (List UInt8) × Int × Int × Int × (List UInt8) × Bool × Bool × (List THeard) × (List (Int × Int)) × Bool × Bool × Bool)} (h : slices_IndexFunc_Listener1 s_ fc00 fc01 fc02 fc03 fc04 fc05 fc06 fc07 fc08 fc09 fc010 fc011 fc012 = some r) : ACalls Tryd.prog (GG mL) 33 [(lstV zs 0 8 s_.length), (.c (.fn (.func 21) [] [.ref 1 1 0 0]))] (upd (upd (upd (upd (upd (fun _ => none) 0 (lstB zs 8 (s_.map e_TListener))) 1 (some (.cells 1 [[.ref 2 13 0 0]]))) 2 (some (.cells 13 [[.ro false 8 (fc00.map e_TListener), .str fc01, cI fc02, cI fc03, cI fc04, .str fc05, cB fc06, cB fc07, lstC zfc0 3 3 fc08.length, .mp 4, cB fc010, cB fc011, cB fc012]]))) 3 (lstB zfc0 3 (fc08.map e_THeard))) 4 (mapB (.i .i64) (fun x => cI x) (fun (x : Int) => (I x)) fc09)) 5 (slices_IndexFunc_Listener1_post zs r) := by
  refine acalls_of_sv hmix c33 (R := slices_IndexFunc_Listener1_post zs r) ?_
  unfold slices_IndexFunc_Listener1 at h
  refine Sv.seq ?_
  refine Sv.region ?_
  refine un (a1 rfl ?_)
  refine dnil ?_
  refine Sv.seq ?_
  refine Sv.seq ?_
  refine Sv.region ?_
  refine un (a1 rfl ?_)
  refine un (a1 (v := (I (s_.length : Int))) (s_lenL rfl (len_nil_of hzs)) ?_)
  refine un (a1 rfl ?_)
  refine dnil ?_
  refine Sv.block ?_
  obtain ⟨kk, h⟩ := lim_some h
  refine Sv.weak (weak_canon2 [0, 1, 2, 3, 4, 3] [0, 1, 2, 4, 5] (by decide) (by decide) (by decide) (.cons (by decide) (.cons (by decide) (.cons (by decide) (.cons (by decide) (.cons (by decide) .nil))))) (.cons rfl (avAs_free rfl) (.cons rfl (avAs_free rfl) (.cons rfl (.c (fn_as .nil (.cons (.ref rfl (by decide)) .nil))) (.cons rfl (.c (lstC_ren rfl (by decide))) .nil)))) (.row (by decide) rfl (fr_map fun _ => rfl) (.box (by decide) rfl .map (.box (by decide) rfl (blkAs_cells (.cons (.same rfl) (.cons (.same rfl) (.cons (.same rfl) (.cons (.same rfl) (.cons (.same rfl) (.cons (.same rfl) (.cons (.same rfl) (.cons (.same rfl) (.cons (lstC_ren rfl (by decide)) (.cons (.mp rfl (by decide)) (.cons (.same rfl) (.cons (.same rfl) (.cons (.same rfl) .nil)))))))))))))) (.box (by decide) rfl (blkAs_cells (.cons (.ref rfl (by decide)) .nil)) (.row (by decide) rfl (fr_map fun _ => rfl) .nil)))))) (slices_IndexFunc_Listener1_l0_ok hzs hzfc0 h ?_ (fun s hs => hs))
  · intro f01 f13 f21 f31 f41 f51 f61 f71 f81 f91 f101 f111 f121 zf81 hzf81 h _ hw1
    refine Sv.weak hw1 ?_
    refine Sv.seq ?_
    refine Sv.region ?_
    refine un (a1 rfl ?_)
    refine dnil ?_
    refine Sv.ret ?_
    replace h := Option.some.inj h
    subst h
    exact ⟨_, .refl _, _, rfl, ⟨upd (fun _ => none) 0 (some (I (-1))), (upd (upd (upd (upd (upd (fun _ => none) 0 (lstB zs 8 (s_.map e_TListener))) 1 (some (.cells 1 [[.ref 2 13 0 0]]))) 2 (some (.cells 13 [[.ro false 8 (f01.map e_TListener), .str f13, cI f21, cI f31, cI f41, .str f51, cB f61, cB f71, lstC zf81 5 3 f81.length, .mp 4, cB f101, cB f111, cB f121]]))) 4 (mapB (.i .i64) (fun x => cI x) (fun (x : Int) => (I x)) f91)) 5 (lstB zf81 3 (f81.map e_THeard))), 6⟩, (I (-1)), weak_canon2 [0, 1, 2, 3, 4, 5] [0, 1, 2, 4, 5] (by decide) (by decide) (by decide) (.cons (by decide) (.cons (by decide) (.cons (by decide) (.cons (by decide) (.cons (by decide) .nil))))) (.cons rfl (avAs_free rfl) .nil) (.row (by decide) rfl (fr_map fun _ => rfl) (.box (by decide) rfl .map (.box (by decide) rfl (blkAs_cells (.cons (.same rfl) (.cons (.same rfl) (.cons (.same rfl) (.cons (.same rfl) (.cons (.same rfl) (.cons (.same rfl) (.cons (.same rfl) (.cons (.same rfl) (.cons (lstC_ren rfl (by decide)) (.cons (.mp rfl (by decide)) (.cons (.same rfl) (.cons (.same rfl) (.cons (.same rfl) .nil)))))))))))))) (.box (by decide) rfl (blkAs_cells (.cons (.ref rfl (by decide)) .nil)) (.row (by decide) rfl (fr_map fun _ => rfl) .nil))))), rfl, zf81, hzf81, rfl, rfl, rfl⟩
def a19_c0 : ACode := (.region [⟨(some 20), (.mov (.tmp 6)), none⟩, ⟨(some 21), (.bin .add (.tmp 20) (.const (.c (.val (.int .i64 1))))), none⟩, ⟨(some 6), (.mov (.tmp 21)), none⟩])
def a19_c1 : ACode := (.seq (.seq (.region [⟨(some 16), (.mov (.tmp 6)), none⟩, ⟨(some 17), (.mov (.tmp 0)), none⟩, ⟨(some 18), (.len (.tmp 17)), none⟩, ⟨(some 19), (.bin .lss (.tmp 16) (.tmp 18)), none⟩])
 (.cond (.tmp 19) .skip (.exit 0)))
 (.seq (.block 1 (.seq (.region [⟨(some 22), (.mov (.tmp 0)), none⟩, ⟨(some 23), (.mov (.tmp 6)), none⟩, ⟨(some 24), (.iaddr 8 (.tmp 22) (.tmp 23)), none⟩, ⟨(some 25), (.load true 8 (.tmp 24)), none⟩, ⟨(some 7), (.box (.const (.agg [(.val (.int .i64 0)), (.val (.int .i64 0)), (.str []), (.val (.bool false)), (.val (.bool false)), (.val (.bool false)), (.val (.bool false)), (.val (.bool false))]))), none⟩, ⟨none, (.store 8 (.tmp 7) (.tmp 25)), none⟩])
 (.seq (.region [⟨(some 26), (.mov (.tmp 1)), none⟩, ⟨(some 27), (.load true 8 (.tmp 7)), none⟩, ⟨(some 28), (.callv (.tmp 26) [(.tmp 27)]), none⟩, ⟨(some 29), (.un .not (.tmp 28)), none⟩])
 (.cond (.tmp 29) (.seq (.region [⟨(some 30), (.mov (.tmp 0)), none⟩, ⟨(some 31), (.mov (.tmp 5)), none⟩, ⟨(some 32), (.load true 8 (.tmp 7)), none⟩, ⟨(some 33), (.iaddr 8 (.tmp 30) (.tmp 31)), none⟩, ⟨none, (.store 8 (.tmp 33) (.tmp 32)), none⟩])
 (.region [⟨(some 34), (.mov (.tmp 5)), none⟩, ⟨(some 35), (.bin .add (.tmp 34) (.const (.c (.val (.int .i64 1))))), none⟩, ⟨(some 5), (.mov (.tmp 35)), none⟩])) .skip))))
 a19_c0))
def a19 : AFunc := ⟨2, [(.tmp 4)], (.seq (.region [⟨(some 4), (.mov (.const (.c (.ro true 8 [])))), none⟩])
 (.seq (.region [⟨(some 8), (.mov (.tmp 0)), none⟩, ⟨(some 9), (.mov (.tmp 1)), none⟩, ⟨(some 10), (.call 33 [(.tmp 8), (.tmp 9)]), none⟩, ⟨(some 5), (.mov (.tmp 10)), none⟩])
 (.seq (.seq (.region [⟨(some 11), (.mov (.tmp 5)), none⟩, ⟨(some 12), (.bin .eql (.tmp 11) (.const (.c (.val (.int .i64 (-1)))))), none⟩])
 (.cond (.tmp 12) (.seq (.region [⟨(some 13), (.mov (.tmp 0)), none⟩, ⟨(some 4), (.mov (.tmp 13)), none⟩])
 .ret) .skip))
 (.seq (.seq (.region [⟨(some 14), (.mov (.tmp 5)), none⟩, ⟨(some 15), (.bin .add (.tmp 14) (.const (.c (.val (.int .i64 1))))), none⟩, ⟨(some 6), (.mov (.tmp 15)), none⟩])
 (.block 0 (.loop a19_c1)))
 (.seq (.region [⟨(some 36), (.mov (.tmp 0)), none⟩, ⟨(some 37), (.mov (.tmp 5)), none⟩, ⟨(some 38), (.slSl 8 (.tmp 36) (some (.tmp 37)) none none), none⟩, ⟨none, (.clr 8 [(.val (.int .i64 0)), (.val (.int .i64 0)), (.str []), (.val (.bool false)), (.val (.bool false)), (.val (.bool false)), (.val (.bool false)), (.val (.bool false))] (.tmp 38)), none⟩])
 (.seq (.region [⟨(some 39), (.mov (.tmp 0)), none⟩, ⟨(some 40), (.mov (.tmp 5)), none⟩, ⟨(some 41), (.slSl 8 (.tmp 39) none (some (.tmp 40)) none), none⟩, ⟨(some 4), (.mov (.tmp 41)), none⟩])
 .ret))))))⟩
set_option maxRecDepth 100000 in
theorem c19 : compFunc Tryd.prog 19 = some a19 := by kernel_rfl
def slices_DeleteFunc_Listener_post (r : ((List TListener) × (List TListener) × (List UInt8) × Int × Int × Int × (List UInt8) × Bool × Bool × (List THeard) × (List (Int × Int)) × Bool × Bool × Bool)) : AV → Heap → Nat → Prop := fun v h' n' => ∃ z0 : Bool, (z0 = true → r.1 = []) ∧ ∃ z1 : Bool, (z1 = true → r.2.2.2.2.2.2.2.2.2.1 = []) ∧ v = (lstV z0 5 8 r.1.length) ∧ (h' = (upd (upd (upd (upd (upd (fun _ => none) 1 (some (.cells 1 [[.ref 2 13 0 0]]))) 2 (some (.cells 13 [[.ro false 8 (r.2.1.map e_TListener), .str r.2.2.1, cI r.2.2.2.1, cI r.2.2.2.2.1, cI r.2.2.2.2.2.1, .str r.2.2.2.2.2.2.1, cB r.2.2.2.2.2.2.2.1, cB r.2.2.2.2.2.2.2.2.1, lstC z1 6 3 r.2.2.2.2.2.2.2.2.2.1.length, .mp 4, cB r.2.2.2.2.2.2.2.2.2.2.2.1, cB r.2.2.2.2.2.2.2.2.2.2.2.2.1, cB r.2.2.2.2.2.2.2.2.2.2.2.2.2]]))) 4 (mapB (.i .i64) (fun x => cI x) (fun (x : Int) => (I x)) r.2.2.2.2.2.2.2.2.2.2.1)) 5 (lstB z0 8 (r.1.map e_TListener))) 6 (lstB z1 3 (r.2.2.2.2.2.2.2.2.2.1.map e_THeard)))) ∧ n' = 7
abbrev slices_DeleteFunc_Listener_l0_H (F_ : (List TListener) → (List TListener) → (List UInt8) → Int → Int → Int → (List UInt8) → Bool → Bool → (List THeard) → (List (Int × Int)) → Bool → Bool → Bool → Int → Int → Option ((List TListener) × (List TListener) × (List UInt8) × Int × Int × Int × (List UInt8) × Bool × Bool × (List THeard) × (List (Int × Int)) × Bool × Bool × Bool)) (o : ((List TListener) × (List TListener) × (List UInt8) × Int × Int × Int × (List UInt8) × Bool × Bool × (List THeard) × (List (Int × Int)) × Bool × Bool × Bool)) (R_ : St → Prop) : Prop := ∀ (s_1 : (List TListener)) (del0 : (List TListener)) (del1 : (List UInt8)) (del2 : Int) (del3 : Int) (del4 : Int) (del5 : (List UInt8)) (del6 : Bool) (del7 : Bool) (del8 : (List THeard)) (del9 : (List (Int × Int))) (del10 : Bool) (del11 : Bool) (del12 : Bool) (i_ : Int) (j_ : Int) (zs_1 : Bool) (_ : zs_1 = true → s_1 = []) (zdel8 : Bool) (_ : zdel8 = true → del8 = []), F_ s_1 del0 del1 del2 del3 del4 del5 del6 del7 del8 del9 del10 del11 del12 i_ j_ = some o → ∀ s, Weak 5 s ⟨(upd (upd (upd (upd (fun _ => none) 0 (some (lstV zs_1 0 8 s_1.length))) 1 (some (.c (.fn (.func 21) [] [.ref 1 1 0 0])))) 5 (some (I i_))) 6 (some (I j_))), (upd (upd (upd (upd (upd (fun _ => none) 0 (lstB zs_1 8 (s_1.map e_TListener))) 1 (some (.cells 1 [[.ref 2 13 0 0]]))) 2 (some (.cells 13 [[.ro false 8 (del0.map e_TListener), .str del1, cI del2, cI del3, cI del4, .str del5, cB del6, cB del7, lstC zdel8 5 3 del8.length, .mp 4, cB del10, cB del11, cB del12]]))) 4 (mapB (.i .i64) (fun x => cI x) (fun (x : Int) => (I x)) del9)) 5 (lstB zdel8 3 (del8.map e_THeard))), 6⟩ → R_ s
abbrev slices_DeleteFunc_Listener_l0_E0 (F_ : (List TListener) → (List TListener) → (List UInt8) → Int → Int → Int → (List UInt8) → Bool → Bool → (List THeard) → (List (Int × Int)) → Bool → Bool → Bool → Int → Option ((List TListener) × (List TListener) × (List UInt8) × Int × Int × Int × (List UInt8) × Bool × Bool × (List THeard) × (List (Int × Int)) × Bool × Bool × Bool)) (o : ((List TListener) × (List TListener) × (List UInt8) × Int × Int × Int × (List UInt8) × Bool × Bool × (List THeard) × (List (Int × Int)) × Bool × Bool × Bool)) (R_ : St → Prop) : Prop := ∀ (s_2 : (List TListener)) (del01 : (List TListener)) (del13 : (List UInt8)) (del21 : Int) (del31 : Int) (del41 : Int) (del51 : (List UInt8)) (del61 : Bool) (del71 : Bool) (del81 : (List THeard)) (del91 : (List (Int × Int))) (del101 : Bool) (del111 : Bool) (del121 : Bool) (i_1 : Int) (zs_2 : Bool) (_ : zs_2 = true → s_2 = []) (zdel81 : Bool) (_ : zdel81 = true → del81 = []), F_ s_2 del01 del13 del21 del31 del41 del51 del61 del71 del81 del91 del101 del111 del121 i_1 = some o → ∀ s, Weak 5 s ⟨(upd (upd (upd (fun _ => none) 0 (some (lstV zs_2 0 8 s_2.length))) 1 (some (.c (.fn (.func 21) [] [.ref 1 1 0 0])))) 5 (some (I i_1))), (upd (upd (upd (upd (upd (fun _ => none) 0 (lstB zs_2 8 (s_2.map e_TListener))) 1 (some (.cells 1 [[.ref 2 13 0 0]]))) 2 (some (.cells 13 [[.ro false 8 (del01.map e_TListener), .str del13, cI del21, cI del31, cI del41, .str del51, cB del61, cB del71, lstC zdel81 5 3 del81.length, .mp 4, cB del101, cB del111, cB del121]]))) 4 (mapB (.i .i64) (fun x => cI x) (fun (x : Int) => (I x)) del91)) 5 (lstB zdel81 3 (del81.map e_THeard))), 6⟩ → R_ s
noncomputable def slices_DeleteFunc_Listener_j3 (j_ : Int) (self : (List TListener) → (List TListener) → (List UInt8) → Int → Int → Int → (List UInt8) → Bool → Bool → (List THeard) → (List (Int × Int)) → Bool → Bool → Bool → Int → Int → Option ((List TListener) × (List TListener) × (List UInt8) × Int × Int × Int × (List UInt8) × Bool × Bool × (List THeard) × (List (Int × Int)) × Bool × Bool × Bool)) (K0_ : (List TListener) → (List TListener) → (List UInt8) → Int → Int → Int → (List UInt8) → Bool → Bool → (List THeard) → (List (Int × Int)) → Bool → Bool → Bool → Int → Option ((List TListener) × (List TListener) × (List UInt8) × Int × Int × Int × (List UInt8) × Bool × Bool × (List THeard) × (List (Int × Int)) × Bool × Bool × Bool)) (s_3 : (List TListener)) (del02 : (List TListener)) (del14 : (List UInt8)) (del22 : Int) (del32 : Int) (del42 : Int) (del52 : (List UInt8)) (del62 : Bool) (del72 : Bool) (del82 : (List THeard)) (del92 : (List (Int × Int))) (del102 : Bool) (del112 : Bool) (del122 : Bool) (i_2 : Int) : Option ((List TListener) × (List TListener) × (List UInt8) × Int × Int × Int × (List UInt8) × Bool × Bool × (List THeard) × (List (Int × Int)) × Bool × Bool × Bool) :=
  self s_3 del02 del14 del22 del32 del42 del52 del62 del72 del82 del92 del102 del112 del122 i_2 (wi (j_ + 1))
theorem slices_DeleteFunc_Listener_j3_ok {mL : Int} {Q : AExit → St → Prop} {j_ : Int} {self : (List TListener) → (List TListener) → (List UInt8) → Int → Int → Int → (List UInt8) → Bool → Bool → (List THeard) → (List (Int × Int)) → Bool → Bool → Bool → Int → Int → Option ((List TListener) × (List TListener) × (List UInt8) × Int × Int × Int × (List UInt8) × Bool × Bool × (List THeard) × (List (Int × Int)) × Bool × Bool × Bool)} {K0_ : (List TListener) → (List TListener) → (List UInt8) → Int → Int → Int → (List UInt8) → Bool → Bool → (List THeard) → (List (Int × Int)) → Bool → Bool → Bool → Int → Option ((List TListener) × (List TListener) × (List UInt8) × Int × Int × Int × (List UInt8) × Bool × Bool × (List THeard) × (List (Int × Int)) × Bool × Bool × Bool)} {s_3 : (List TListener)} {del02 : (List TListener)} {del14 : (List UInt8)} {del22 : Int} {del32 : Int} {del42 : Int} {del52 : (List UInt8)} {del62 : Bool} {del72 : Bool} {del82 : (List THeard)} {del92 : (List (Int × Int))} {del102 : Bool} {del112 : Bool} {del122 : Bool} {i_2 : Int} {zs_3 : Bool} (hzs_3 : zs_3 = true → s_3 = []) {zdel82 : Bool} (hzdel82 : zdel82 = true → del82 = []) {o : ((List TListener) × (List TListener) × (List UInt8) × Int × Int × Int × (List UInt8) × Bool × Bool × (List THeard) × (List (Int × Int)) × Bool × Bool × Bool)} (h : slices_DeleteFunc_Listener_j3 j_ self K0_ s_3 del02 del14 del22 del32 del42 del52 del62 del72 del82 del92 del102 del112 del122 i_2 = some o)
    (hself : slices_DeleteFunc_Listener_l0_H self o (Q .normal))
    (hK0 : slices_DeleteFunc_Listener_l0_E0 K0_ o (Q (.exit 0)))
    (hr : ∀ s, Ends a19.results 5 (slices_DeleteFunc_Listener_post o) .ret s → Q .ret s) :
    Sv Tryd.prog (GG mL) 5 a19_c0 Q ⟨(upd (upd (upd (upd (fun _ => none) 0 (some (lstV zs_3 0 8 s_3.length))) 1 (some (.c (.fn (.func 21) [] [.ref 1 1 0 0])))) 5 (some (I i_2))) 6 (some (I j_))), (upd (upd (upd (upd (upd (fun _ => none) 0 (lstB zs_3 8 (s_3.map e_TListener))) 1 (some (.cells 1 [[.ref 2 13 0 0]]))) 2 (some (.cells 13 [[.ro false 8 (del02.map e_TListener), .str del14, cI del22, cI del32, cI del42, .str del52, cB del62, cB del72, lstC zdel82 5 3 del82.length, .mp 4, cB del102, cB del112, cB del122]]))) 4 (mapB (.i .i64) (fun x => cI x) (fun (x : Int) => (I x)) del92)) 5 (lstB zdel82 3 (del82.map e_THeard))), 6⟩ := by
  unfold slices_DeleteFunc_Listener_j3 at h
  refine Sv.region ?_
  refine un (a1 rfl ?_)
  refine un (a1 (v := (I (wi (j_ + 1)))) rfl ?_)
  refine un (a1 rfl ?_)
  refine dnil ?_
  exact hself s_3 del02 del14 del22 del32 del42 del52 del62 del72 del82 del92 del102 del112 del122 i_2 (wi (j_ + 1)) zs_3 hzs_3 zdel82 hzdel82 h _ (weak_canon [0, 1, 2, 3, 4, 5] rfl (by decide) (by decide) (by decide) (.cons rfl (avAs_free rfl) (.cons rfl (avAs_free rfl) (.cons rfl (.c (fn_as .nil (.cons (.ref rfl (by decide)) .nil))) (.cons rfl (.c (lstC_ren rfl (by decide))) .nil)))) (.row (by decide) rfl (fr_map fun _ => rfl) (.box (by decide) rfl .map (.box (by decide) rfl (blkAs_cells (.cons (.same rfl) (.cons (.same rfl) (.cons (.same rfl) (.cons (.same rfl) (.cons (.same rfl) (.cons (.same rfl) (.cons (.same rfl) (.cons (.same rfl) (.cons (lstC_ren rfl (by decide)) (.cons (.mp rfl (by decide)) (.cons (.same rfl) (.cons (.same rfl) (.cons (.same rfl) .nil)))))))))))))) (.box (by decide) rfl (blkAs_cells (.cons (.ref rfl (by decide)) .nil)) (.row (by decide) rfl (fr_map fun _ => rfl) .nil))))))
abbrev slices_DeleteFunc_Listener_l0_I (F_ : Nat → (List TListener) → (List TListener) → (List UInt8) → Int → Int → Int → (List UInt8) → Bool → Bool → (List THeard) → (List (Int × Int)) → Bool → Bool → Bool → Int → Int → Option ((List TListener) × (List TListener) × (List UInt8) × Int × Int × Int × (List UInt8) × Bool × Bool × (List THeard) × (List (Int × Int)) × Bool × Bool × Bool)) (o : ((List TListener) × (List TListener) × (List UInt8) × Int × Int × Int × (List UInt8) × Bool × Bool × (List THeard) × (List (Int × Int)) × Bool × Bool × Bool)) : Nat → St → Prop := fun k s => ∃ (s_1 : (List TListener)), ∃ (del0 : (List TListener)), ∃ (del1 : (List UInt8)), ∃ (del2 : Int), ∃ (del3 : Int), ∃ (del4 : Int), ∃ (del5 : (List UInt8)), ∃ (del6 : Bool), ∃ (del7 : Bool), ∃ (del8 : (List THeard)), ∃ (del9 : (List (Int × Int))), ∃ (del10 : Bool), ∃ (del11 : Bool), ∃ (del12 : Bool), ∃ (i_ : Int), ∃ (j_ : Int), ∃ (zs_1 : Bool), (zs_1 = true → s_1 = []) ∧ ∃ (zdel8 : Bool), (zdel8 = true → del8 = []) ∧ F_ k s_1 del0 del1 del2 del3 del4 del5 del6 del7 del8 del9 del10 del11 del12 i_ j_ = some o ∧ s = ⟨(upd (upd (upd (upd (fun _ => none) 0 (some (lstV zs_1 0 8 s_1.length))) 1 (some (.c (.fn (.func 21) [] [.ref 1 1 0 0])))) 5 (some (I i_))) 6 (some (I j_))), (upd (upd (upd (upd (upd (fun _ => none) 0 (lstB zs_1 8 (s_1.map e_TListener))) 1 (some (.cells 1 [[.ref 2 13 0 0]]))) 2 (some (.cells 13 [[.ro false 8 (del0.map e_TListener), .str del1, cI del2, cI del3, cI del4, .str del5, cB del6, cB del7, lstC zdel8 5 3 del8.length, .mp 4, cB del10, cB del11, cB del12]]))) 4 (mapB (.i .i64) (fun x => cI x) (fun (x : Int) => (I x)) del9)) 5 (lstB zdel8 3 (del8.map e_THeard))), 6⟩
noncomputable def slices_DeleteFunc_Listener_l0 (K0_ : (List TListener) → (List TListener) → (List UInt8) → Int → Int → Int → (List UInt8) → Bool → Bool → (List THeard) → (List (Int × Int)) → Bool → Bool → Bool → Int → Option ((List TListener) × (List TListener) × (List UInt8) × Int × Int × Int × (List UInt8) × Bool × Bool × (List THeard) × (List (Int × Int)) × Bool × Bool × Bool)) : Nat → (List TListener) → (List TListener) → (List UInt8) → Int → Int → Int → (List UInt8) → Bool → Bool → (List THeard) → (List (Int × Int)) → Bool → Bool → Bool → Int → Int → Option ((List TListener) × (List TListener) × (List UInt8) × Int × Int × Int × (List UInt8) × Bool × Bool × (List THeard) × (List (Int × Int)) × Bool × Bool × Bool)
  | 0, _, _, _, _, _, _, _, _, _, _, _, _, _, _, _, _ => none
  | k + 1, s_1, del0, del1, del2, del3, del4, del5, del6, del7, del8, del9, del10, del11, del12, i_, j_ =>
    if decide (j_ < (s_1.length : Int)) then
      (at? s_1 j_).bind fun x_ =>
      (event_Send_fn1 x_ del0 del1 del2 del3 del4 del5 del6 del7 del8 del9 del10 del11 del12).bind fun r_1 =>
      if (!r_1.1) then
        (at? s_1 i_).bind fun x_1 =>
        slices_DeleteFunc_Listener_j3 j_ (slices_DeleteFunc_Listener_l0 K0_ k) K0_ (s_1.set i_.toNat x_) r_1.2.1 r_1.2.2.1 r_1.2.2.2.1 r_1.2.2.2.2.1 r_1.2.2.2.2.2.1 r_1.2.2.2.2.2.2.1 r_1.2.2.2.2.2.2.2.1 r_1.2.2.2.2.2.2.2.2.1 r_1.2.2.2.2.2.2.2.2.2.1 r_1.2.2.2.2.2.2.2.2.2.2.1 r_1.2.2.2.2.2.2.2.2.2.2.2.1 r_1.2.2.2.2.2.2.2.2.2.2.2.2.1 r_1.2.2.2.2.2.2.2.2.2.2.2.2.2 (wi (i_ + 1))
      else
        slices_DeleteFunc_Listener_j3 j_ (slices_DeleteFunc_Listener_l0 K0_ k) K0_ s_1 r_1.2.1 r_1.2.2.1 r_1.2.2.2.1 r_1.2.2.2.2.1 r_1.2.2.2.2.2.1 r_1.2.2.2.2.2.2.1 r_1.2.2.2.2.2.2.2.1 r_1.2.2.2.2.2.2.2.2.1 r_1.2.2.2.2.2.2.2.2.2.1 r_1.2.2.2.2.2.2.2.2.2.2.1 r_1.2.2.2.2.2.2.2.2.2.2.2.1 r_1.2.2.2.2.2.2.2.2.2.2.2.2.1 r_1.2.2.2.2.2.2.2.2.2.2.2.2.2 i_
    else
      K0_ s_1 del0 del1 del2 del3 del4 del5 del6 del7 del8 del9 del10 del11 del12 i_
theorem slices_DeleteFunc_Listener_l0_ok {mL : Int} {Q : AExit → St → Prop} {K0_ : (List TListener) → (List TListener) → (List UInt8) → Int → Int → Int → (List UInt8) → Bool → Bool → (List THeard) → (List (Int × Int)) → Bool → Bool → Bool → Int → Option ((List TListener) × (List TListener) × (List UInt8) × Int × Int × Int × (List UInt8) × Bool × Bool × (List THeard) × (List (Int × Int)) × Bool × Bool × Bool)} {k : Nat} {s_1 : (List TListener)} {del0 : (List TListener)} {del1 : (List UInt8)} {del2 : Int} {del3 : Int} {del4 : Int} {del5 : (List UInt8)} {del6 : Bool} {del7 : Bool} {del8 : (List THeard)} {del9 : (List (Int × Int))} {del10 : Bool} {del11 : Bool} {del12 : Bool} {i_ : Int} {j_ : Int} {zs_1 : Bool} (hzs_1 : zs_1 = true → s_1 = []) {zdel8 : Bool} (hzdel8 : zdel8 = true → del8 = []) {o : ((List TListener) × (List TListener) × (List UInt8) × Int × Int × Int × (List UInt8) × Bool × Bool × (List THeard) × (List (Int × Int)) × Bool × Bool × Bool)} (h : slices_DeleteFunc_Listener_l0 K0_ k s_1 del0 del1 del2 del3 del4 del5 del6 del7 del8 del9 del10 del11 del12 i_ j_ = some o)
    (hK0 : slices_DeleteFunc_Listener_l0_E0 K0_ o (Q (.exit 0)))
    (hr : ∀ s, Ends a19.results 5 (slices_DeleteFunc_Listener_post o) .ret s → Q .ret s) :
    Sv Tryd.prog (GG mL) 5 (.loop a19_c1) Q ⟨(upd (upd (upd (upd (fun _ => none) 0 (some (lstV zs_1 0 8 s_1.length))) 1 (some (.c (.fn (.func 21) [] [.ref 1 1 0 0])))) 5 (some (I i_))) 6 (some (I j_))), (upd (upd (upd (upd (upd (fun _ => none) 0 (lstB zs_1 8 (s_1.map e_TListener))) 1 (some (.cells 1 [[.ref 2 13 0 0]]))) 2 (some (.cells 13 [[.ro false 8 (del0.map e_TListener), .str del1, cI del2, cI del3, cI del4, .str del5, cB del6, cB del7, lstC zdel8 5 3 del8.length, .mp 4, cB del10, cB del11, cB del12]]))) 4 (mapB (.i .i64) (fun x => cI x) (fun (x : Int) => (I x)) del9)) 5 (lstB zdel8 3 (del8.map e_THeard))), 6⟩ := by
  refine Sv.loop (I := slices_DeleteFunc_Listener_l0_I (slices_DeleteFunc_Listener_l0 K0_) o) (fun k s hI => ?_) ⟨s_1, del0, del1, del2, del3, del4, del5, del6, del7, del8, del9, del10, del11, del12, i_, j_, zs_1, hzs_1, zdel8, hzdel8, h, rfl⟩
  clear h
  clear hzdel8 hzs_1 zdel8 zs_1 j_ i_ del12 del11 del10 del9 del8 del7 del6 del5 del4 del3 del2 del1 del0 s_1
  obtain ⟨s_1, del0, del1, del2, del3, del4, del5, del6, del7, del8, del9, del10, del11, del12, i_, j_, zs_1, hzs_1, zdel8, hzdel8, h, rfl⟩ := hI
  cases k with
  | zero => cases h
  | succ k =>
  rw [slices_DeleteFunc_Listener_l0] at h
  have hself : slices_DeleteFunc_Listener_l0_H (slices_DeleteFunc_Listener_l0 K0_ k) o (rnd 5 (slices_DeleteFunc_Listener_l0_I (slices_DeleteFunc_Listener_l0 K0_) o) k Q) := fun s_1 del0 del1 del2 del3 del4 del5 del6 del7 del8 del9 del10 del11 del12 i_ j_ zs_1 hzs_1 zdel8 hzdel8 h s hw => ⟨_, k, hw, Nat.lt_succ_self k, s_1, del0, del1, del2, del3, del4, del5, del6, del7, del8, del9, del10, del11, del12, i_, j_, zs_1, hzs_1, zdel8, hzdel8, h, rfl⟩
  refine Sv.seq ?_
  refine Sv.seq ?_
  refine Sv.region ?_
  refine un (a1 rfl ?_)
  refine un (a1 rfl ?_)
  refine un (a1 (v := (I (s_1.length : Int))) (s_lenL rfl (len_nil_of hzs_1)) ?_)
  refine un (a1 (v := (B (decide (j_ < (s_1.length : Int))))) rfl ?_)
  refine dnil ?_
  refine Sv.cond (b := decide (j_ < (s_1.length : Int))) rfl (fun hc2 => ?_) (fun hc2 => ?_)
  · replace h := ifT hc2 h
    refine Sv.skip ?_
    refine Sv.seq ?_
    refine Sv.block ?_
    refine Sv.seq ?_
    refine Sv.region ?_
    refine un (a1 rfl ?_)
    refine un (a1 rfl ?_)
    obtain ⟨x_, hx1, h⟩ := bnd h
    refine un (a1 (v := (.c (.ref 0 8 j_.toNat 0))) (s_iaddrL rfl rfl hzs_1 hx1) ?_)
    refine un (a1 (v := (.agg [cI x_.ID, cI x_.Node, .str x_.f_Type, cB x_.Capture, cB x_.Once, cB x_.Stops, cB x_.StopsAll, cB x_.Prevents])) (s_loadL (z := zs_1) (e := e_TListener) rfl rfl hzs_1 hx1 rfl rfl) ?_)
    refine un (a2v (v := (.c (.ref 6 8 0 0))) (h' := upd _ 6 (some (.cells 8 [[cI 0, cI 0, .str [], cB false, cB false, cB false, cB false, cB false]]))) (n' := 7) rfl rfl (fun h => by cases h) ?_)
    refine un (a2n (h' := upd _ 6 (some (.cells 8 [[cI x_.ID, cI x_.Node, .str x_.f_Type, cB x_.Capture, cB x_.Once, cB x_.Stops, cB x_.StopsAll, cB x_.Prevents]]))) (n' := 7) rfl rfl (fun h => by cases h) ?_)
    refine dnil ?_
    refine Sv.seq ?_
    refine Sv.region ?_
    refine un (a1 rfl ?_)
    refine un (a1 (v := (.agg [cI x_.ID, cI x_.Node, .str x_.f_Type, cB x_.Capture, cB x_.Once, cB x_.Stops, cB x_.StopsAll, cB x_.Prevents])) rfl ?_)
    obtain ⟨r_1, hr2, h⟩ := bnd h
    refine un (acv_gen (bs := [1, 2, 5, 4]) («as» := [(.agg [cI x_.ID, cI x_.Node, .str x_.f_Type, cB x_.Capture, cB x_.Once, cB x_.Stops, cB x_.StopsAll, cB x_.Prevents]), (.c (.ref 1 1 0 0))]) (h2 := _) (h1 := (upd (upd (upd (upd (fun _ => none) 1 (some (.cells 1 [[.ref 2 13 0 0]]))) 2 (some (.cells 13 [[.ro false 8 (del0.map e_TListener), .str del1, cI del2, cI del3, cI del4, .str del5, cB del6, cB del7, lstC zdel8 5 3 del8.length, .mp 4, cB del10, cB del11, cB del12]]))) 5 (lstB zdel8 3 (del8.map e_THeard))) 4 (mapB (.i .i64) (fun x => cI x) (fun (x : Int) => (I x)) del9))) rfl (by kernel_rfl) (event_Send_fn1_ok hzdel8 hr2) rfl (.cons (avAs_free rfl) (.cons (.c (.ref rfl (by decide))) .nil)) (hsub_refl _) (.cons rfl (.cons rfl (.cons rfl (.cons rfl (.nil _))))) (fun h => by cases h) (by decide) (by decide) (.cons (avAs_free rfl) (.cons (.c (.ref rfl (by decide))) .nil)) (.box (by decide) rfl .map (.row (by decide) rfl (fr_map fun _ => rfl) (.box (by decide) rfl (blkAs_cells (.cons (.same rfl) (.cons (.same rfl) (.cons (.same rfl) (.cons (.same rfl) (.cons (.same rfl) (.cons (.same rfl) (.cons (.same rfl) (.cons (.same rfl) (.cons (lstC_ren rfl (by decide)) (.cons (.mp rfl (by decide)) (.cons (.same rfl) (.cons (.same rfl) (.cons (.same rfl) .nil)))))))))))))) (.box (by decide) rfl (blkAs_cells (.cons (.ref rfl (by decide)) .nil)) .nil)))) ?_)
    rintro _ _ _ hn ⟨z_1, hz_1, rfl, rfl, rfl⟩
    refine ⟨.inl rfl, (upd (upd (upd (upd (rem [1, 2, 5, 4] _) 1 (some (.cells 1 [[.ref 2 13 0 0]]))) 2 (some (.cells 13 [[.ro false 8 (r_1.2.1.map e_TListener), .str r_1.2.2.1, cI r_1.2.2.2.1, cI r_1.2.2.2.2.1, cI r_1.2.2.2.2.2.1, .str r_1.2.2.2.2.2.2.1, cB r_1.2.2.2.2.2.2.2.1, cB r_1.2.2.2.2.2.2.2.2.1, lstC z_1 7 3 r_1.2.2.2.2.2.2.2.2.2.1.length, .mp 4, cB r_1.2.2.2.2.2.2.2.2.2.2.2.1, cB r_1.2.2.2.2.2.2.2.2.2.2.2.2.1, cB r_1.2.2.2.2.2.2.2.2.2.2.2.2.2]]))) 4 (mapB (.i .i64) (fun x => cI x) (fun (x : Int) => (I x)) r_1.2.2.2.2.2.2.2.2.2.2.1)) 7 (lstB z_1 3 (r_1.2.2.2.2.2.2.2.2.2.1.map e_THeard))), fun hbd => (m3_cons (m3_row rfl (fr_map fun _ => rfl)) (m3_cons (m3_box rfl rfl) (m3_cons (m3_box rfl (by cases z_1 <;> rfl)) (m3_cons (m3_box rfl rfl) (m3_rem (in_cons (by decide) (in_cons (by decide) (in_cons (by decide) (in_cons (by decide) (in_nil _))))) (.cons (by decide) (.cons (by decide) (.cons (by decide) (.cons (by decide) .nil)))) hbd))))), (B r_1.1), 8, (by cases z_1 <;> rfl), rfl, ?_⟩
    refine un (a1 (v := (B (!r_1.1))) rfl ?_)
    refine dnil ?_
    refine Sv.cond (b := (!r_1.1)) rfl (fun hc3 => ?_) (fun hc3 => ?_)
    · replace h := ifT hc3 h
      refine Sv.seq ?_
      refine Sv.region ?_
      refine un (a1 rfl ?_)
      refine un (a1 rfl ?_)
      refine un (a1 (v := (.agg [cI x_.ID, cI x_.Node, .str x_.f_Type, cB x_.Capture, cB x_.Once, cB x_.Stops, cB x_.StopsAll, cB x_.Prevents])) rfl ?_)
      obtain ⟨x_1, hx2, h⟩ := bnd h
      refine un (a1 (v := (.c (.ref 0 8 i_.toNat 0))) (s_iaddrL rfl rfl hzs_1 hx2) ?_)
      refine un (a2n (h' := upd _ 0 (lstB zs_1 8 ((s_1.set i_.toNat x_).map e_TListener))) (n' := 8) rfl (s_storeL (e := e_TListener) (q' := x_) rfl rfl hzs_1 hx2 rfl rfl rfl (Nat.le_of_ble_eq_true rfl) rfl) (fun h => by cases h) ?_)
      try rw [len_set s_1 i_.toNat x_]
      refine dnil ?_
      refine Sv.region ?_
      refine un (a1 rfl ?_)
      refine un (a1 (v := (I (wi (i_ + 1)))) rfl ?_)
      refine un (a1 rfl ?_)
      refine dnil ?_
      exact Sv.weak (weak_canon [0, 1, 2, 3, 4, 7] rfl (by decide) (by decide) (by decide) (.cons rfl (avAs_free rfl) (.cons rfl (avAs_free rfl) (.cons rfl (.c (fn_as .nil (.cons (.ref rfl (by decide)) .nil))) (.cons rfl (.c (lstC_ren rfl (by decide))) .nil)))) (.row (by decide) rfl (fr_map fun _ => rfl) (.box (by decide) rfl .map (.box (by decide) rfl (blkAs_cells (.cons (.same rfl) (.cons (.same rfl) (.cons (.same rfl) (.cons (.same rfl) (.cons (.same rfl) (.cons (.same rfl) (.cons (.same rfl) (.cons (.same rfl) (.cons (lstC_ren rfl (by decide)) (.cons (.mp rfl (by decide)) (.cons (.same rfl) (.cons (.same rfl) (.cons (.same rfl) .nil)))))))))))))) (.box (by decide) rfl (blkAs_cells (.cons (.ref rfl (by decide)) .nil)) (.row (by decide) rfl (fr_map fun _ => rfl) .nil)))))) (slices_DeleteFunc_Listener_j3_ok (hz_len hzs_1 (len_set s_1 i_.toNat x_)) hz_1 h hself hK0 hr)
    · replace h := ifF hc3 h
      refine Sv.skip ?_
      exact Sv.weak (weak_canon [0, 1, 2, 3, 4, 7] rfl (by decide) (by decide) (by decide) (.cons rfl (avAs_free rfl) (.cons rfl (avAs_free rfl) (.cons rfl (.c (fn_as .nil (.cons (.ref rfl (by decide)) .nil))) (.cons rfl (.c (lstC_ren rfl (by decide))) .nil)))) (.row (by decide) rfl (fr_map fun _ => rfl) (.box (by decide) rfl .map (.box (by decide) rfl (blkAs_cells (.cons (.same rfl) (.cons (.same rfl) (.cons (.same rfl) (.cons (.same rfl) (.cons (.same rfl) (.cons (.same rfl) (.cons (.same rfl) (.cons (.same rfl) (.cons (lstC_ren rfl (by decide)) (.cons (.mp rfl (by decide)) (.cons (.same rfl) (.cons (.same rfl) (.cons (.same rfl) .nil)))))))))))))) (.box (by decide) rfl (blkAs_cells (.cons (.ref rfl (by decide)) .nil)) (.row (by decide) rfl (fr_map fun _ => rfl) .nil)))))) (slices_DeleteFunc_Listener_j3_ok hzs_1 hz_1 h hself hK0 hr)
  · replace h := ifF hc2 h
    refine Sv.exit ?_
    exact hK0 s_1 del0 del1 del2 del3 del4 del5 del6 del7 del8 del9 del10 del11 del12 i_ zs_1 hzs_1 zdel8 hzdel8 h _ (weak_canon [0, 1, 2, 3, 4, 5] rfl (by decide) (by decide) (by decide) (.cons rfl (avAs_free rfl) (.cons rfl (.c (fn_as .nil (.cons (.ref rfl (by decide)) .nil))) (.cons rfl (.c (lstC_ren rfl (by decide))) .nil))) (.row (by decide) rfl (fr_map fun _ => rfl) (.box (by decide) rfl .map (.box (by decide) rfl (blkAs_cells (.cons (.same rfl) (.cons (.same rfl) (.cons (.same rfl) (.cons (.same rfl) (.cons (.same rfl) (.cons (.same rfl) (.cons (.same rfl) (.cons (.same rfl) (.cons (lstC_ren rfl (by decide)) (.cons (.mp rfl (by decide)) (.cons (.same rfl) (.cons (.same rfl) (.cons (.same rfl) .nil)))))))))))))) (.box (by decide) rfl (blkAs_cells (.cons (.ref rfl (by decide)) .nil)) (.row (by decide) rfl (fr_map fun _ => rfl) .nil))))))
/-- slices.DeleteFunc(()clerestory/api.Listener,clerestory/api.Listener) -/
noncomputable def slices_DeleteFunc_Listener (s_ : (List TListener)) (delc00 : (List TListener)) (delc01 : (List UInt8)) (delc02 : Int) (delc03 : Int) (delc04 : Int) (delc05 : (List UInt8)) (delc06 : Bool) (delc07 : Bool) (delc08 : (List THeard)) (delc09 : (List (Int × Int))) (delc010 : Bool) (delc011 : Bool) (delc012 : Bool) : Option ((List TListener) × (List TListener) × (List UInt8) × Int × Int × Int × (List UInt8) × Bool × Bool × (List THeard) × (List (Int × Int)) × Bool × Bool × Bool) :=
  (slices_IndexFunc_Listener1 s_ delc00 delc01 delc02 delc03 delc04 delc05 delc06 delc07 delc08 delc09 delc010 delc011 delc012).bind fun r_ =>
  guardLen s_ r_.2.1 <|
  if decide (r_.1 = (-1)) then
    some (r_.2.1, r_.2.2.1, r_.2.2.2.1, r_.2.2.2.2.1, r_.2.2.2.2.2.1, r_.2.2.2.2.2.2.1, r_.2.2.2.2.2.2.2.1, r_.2.2.2.2.2.2.2.2.1, r_.2.2.2.2.2.2.2.2.2.1, r_.2.2.2.2.2.2.2.2.2.2.1, r_.2.2.2.2.2.2.2.2.2.2.2.1, r_.2.2.2.2.2.2.2.2.2.2.2.2.1, r_.2.2.2.2.2.2.2.2.2.2.2.2.2.1, r_.2.2.2.2.2.2.2.2.2.2.2.2.2.2)
  else
    lim fun kk => slices_DeleteFunc_Listener_l0 (fun (s_2 : (List TListener)) (del01 : (List TListener)) (del13 : (List UInt8)) (del21 : Int) (del31 : Int) (del41 : Int) (del51 : (List UInt8)) (del61 : Bool) (del71 : Bool) (del81 : (List THeard)) (del91 : (List (Int × Int))) (del101 : Bool) (del111 : Bool) (del121 : Bool) (i_1 : Int) => 
        (sub? s_2 i_1 (s_2.length : Int)).bind fun r_2 =>
        letIn (clrd s_2 i_1 ((⟨0, 0, [], false, false, false, false, false⟩ : TListener) : TListener)) fun row : (List TListener) =>
        (sub? row 0 i_1).bind fun r_3 =>
        some (r_3, del01, del13, del21, del31, del41, del51, del61, del71, del81, del91, del101, del111, del121)) kk r_.2.1 r_.2.2.1 r_.2.2.2.1 r_.2.2.2.2.1 r_.2.2.2.2.2.1 r_.2.2.2.2.2.2.1 r_.2.2.2.2.2.2.2.1 r_.2.2.2.2.2.2.2.2.1 r_.2.2.2.2.2.2.2.2.2.1 r_.2.2.2.2.2.2.2.2.2.2.1 r_.2.2.2.2.2.2.2.2.2.2.2.1 r_.2.2.2.2.2.2.2.2.2.2.2.2.1 r_.2.2.2.2.2.2.2.2.2.2.2.2.2.1 r_.2.2.2.2.2.2.2.2.2.2.2.2.2.2 r_.1 (wi (r_.1 + 1))
theorem slices_DeleteFunc_Listener_ok {mL : Int} {s_ : (List TListener)} {delc00 : (List TListener)} {delc01 : (List UInt8)} {delc02 : Int} {delc03 : Int} {delc04 : Int} {delc05 : (List UInt8)} {delc06 : Bool} {delc07 : Bool} {delc08 : (List THeard)} {delc09 : (List (Int × Int))} {delc010 : Bool} {delc011 : Bool} {delc012 : Bool} {zs : Bool} (hzs : zs = true → s_ = []) {zdelc0 : Bool} (hzdelc0 : zdelc0 = true → delc08 = []) {r : ((List TListener) × (List TListener) × (List UInt8) × Int × Int × Int × (List UInt8) × Bool × Bool × (List THeard) × (List (Int × Int)) × Bool × Bool × Bool)} (h : slices_DeleteFunc_Listener s_ delc00 delc01 delc02 delc03 delc04 delc05 delc06 delc07 delc08 delc09 delc010 delc011 delc012 = some r) : ACalls Tryd.prog (GG mL) 19 [(lstV zs 0 8 s_.length), (.c (.fn (.func 21) [] [.ref 1 1 0 0]))] (upd (upd (upd (upd (upd (fun _ => none) 0 (lstB zs 8 (s_.map e_TListener))) 1 (some (.cells 1 [[.ref 2 13 0 0]]))) 2 (some (.cells 13 [[.ro false 8 (delc00.map e_TListener), .str delc01, cI delc02, cI delc03, cI delc04, .str delc05, cB delc06, cB delc07, lstC zdelc0 3 3 delc08.length, .mp 4, cB delc010, cB delc011, cB delc012]]))) 3 (lstB zdelc0 3 (delc08.map e_THeard))) 4 (mapB (.i .i64) (fun x => cI x) (fun (x : Int) => (I x)) delc09)) 5 (slices_DeleteFunc_Listener_post r) := by
  refine acalls_of_sv hmix c19 (R := slices_DeleteFunc_Listener_post r) ?_
  unfold slices_DeleteFunc_Listener at h
  refine Sv.seq ?_
  refine Sv.region ?_
  refine un (a1 rfl ?_)
  refine dnil ?_
  refine Sv.seq ?_
  refine Sv.region ?_
  refine un (a1 rfl ?_)
  refine un (a1 rfl ?_)
  obtain ⟨r_, hr1, h⟩ := bnd h
  refine un (ac_gen (bs := [0, 1, 2, 3, 4]) («as» := [(lstV zs 0 8 s_.length), (.c (.fn (.func 21) [] [.ref 1 1 0 0]))]) (h2 := _) (h1 := (upd (upd (upd (upd (upd (fun _ => none) 0 (lstB zs 8 (s_.map e_TListener))) 1 (some (.cells 1 [[.ref 2 13 0 0]]))) 2 (some (.cells 13 [[.ro false 8 (delc00.map e_TListener), .str delc01, cI delc02, cI delc03, cI delc04, .str delc05, cB delc06, cB delc07, lstC zdelc0 3 3 delc08.length, .mp 4, cB delc010, cB delc011, cB delc012]]))) 3 (lstB zdelc0 3 (delc08.map e_THeard))) 4 (mapB (.i .i64) (fun x => cI x) (fun (x : Int) => (I x)) delc09))) (slices_IndexFunc_Listener1_ok hzs hzdelc0 hr1) rfl (.cons (.c (lstC_ren rfl (by decide))) (.cons (.c (fn_as .nil (.cons (.ref rfl (by decide)) .nil))) .nil)) (hsub_refl _) (.cons rfl (.cons rfl (.cons rfl (.cons rfl (.cons rfl (.nil _)))))) (fun h => by cases h) (by decide) (by decide) (.cons (.c (lstC_ren rfl (by decide))) (.cons (.c (fn_as .nil (.cons (.ref rfl (by decide)) .nil))) .nil)) (.box (by decide) rfl .map (.row (by decide) rfl (fr_map fun _ => rfl) (.box (by decide) rfl (blkAs_cells (.cons (.same rfl) (.cons (.same rfl) (.cons (.same rfl) (.cons (.same rfl) (.cons (.same rfl) (.cons (.same rfl) (.cons (.same rfl) (.cons (.same rfl) (.cons (lstC_ren rfl (by decide)) (.cons (.mp rfl (by decide)) (.cons (.same rfl) (.cons (.same rfl) (.cons (.same rfl) .nil)))))))))))))) (.box (by decide) rfl (blkAs_cells (.cons (.ref rfl (by decide)) .nil)) (.row (by decide) rfl (fr_map fun _ => rfl) .nil))))) ?_)
  rintro _ _ _ hn ⟨z_, hz_, rfl, rfl, rfl⟩
  refine ⟨.inl rfl, (upd (upd (upd (upd (upd (rem [0, 1, 2, 3, 4] _) 0 (lstB zs 8 (r_.2.1.map e_TListener))) 1 (some (.cells 1 [[.ref 2 13 0 0]]))) 2 (some (.cells 13 [[.ro false 8 (r_.2.2.1.map e_TListener), .str r_.2.2.2.1, cI r_.2.2.2.2.1, cI r_.2.2.2.2.2.1, cI r_.2.2.2.2.2.2.1, .str r_.2.2.2.2.2.2.2.1, cB r_.2.2.2.2.2.2.2.2.1, cB r_.2.2.2.2.2.2.2.2.2.1, lstC z_ 5 3 r_.2.2.2.2.2.2.2.2.2.2.1.length, .mp 4, cB r_.2.2.2.2.2.2.2.2.2.2.2.2.1, cB r_.2.2.2.2.2.2.2.2.2.2.2.2.2.1, cB r_.2.2.2.2.2.2.2.2.2.2.2.2.2.2]]))) 4 (mapB (.i .i64) (fun x => cI x) (fun (x : Int) => (I x)) r_.2.2.2.2.2.2.2.2.2.2.2.1)) 5 (lstB z_ 3 (r_.2.2.2.2.2.2.2.2.2.2.1.map e_THeard))), fun hbd => (m3_cons (m3_row rfl (fr_map fun _ => rfl)) (m3_cons (m3_box rfl rfl) (m3_cons (m3_box rfl (by cases z_ <;> rfl)) (m3_cons (m3_box rfl rfl) (m3_cons (m3_row rfl (fr_map fun _ => rfl)) (m3_rem (in_cons (by decide) (in_cons (by decide) (in_cons (by decide) (in_cons (by decide) (in_cons (by decide) (in_nil _)))))) (.cons (by decide) (.cons (by decide) (.cons (by decide) (.cons (by decide) (.cons (by decide) .nil))))) hbd)))))), (I r_.1), 6, (by cases z_ <;> rfl), rfl, ?_⟩
  obtain ⟨hlen, h⟩ := guard_some h
  try rw [hlen]
  refine un (a1 rfl ?_)
  refine dnil ?_
  refine Sv.seq ?_
  refine Sv.seq ?_
  refine Sv.region ?_
  refine un (a1 rfl ?_)
  refine un (a1 (v := (B (decide (r_.1 = (-1))))) rfl ?_)
  refine dnil ?_
  refine Sv.cond (b := decide (r_.1 = (-1))) rfl (fun hc1 => ?_) (fun hc1 => ?_)
  · replace h := ifT hc1 h
    refine Sv.seq ?_
    refine Sv.region ?_
    refine un (a1 rfl ?_)
    refine un (a1 rfl ?_)
    refine dnil ?_
    refine Sv.ret ?_
    replace h := Option.some.inj h
    subst h
    exact ⟨_, .refl _, _, rfl, ⟨upd (fun _ => none) 0 (some (lstV zs 5 8 r_.2.1.length)), (upd (upd (upd (upd (upd (fun _ => none) 1 (some (.cells 1 [[.ref 2 13 0 0]]))) 2 (some (.cells 13 [[.ro false 8 (r_.2.2.1.map e_TListener), .str r_.2.2.2.1, cI r_.2.2.2.2.1, cI r_.2.2.2.2.2.1, cI r_.2.2.2.2.2.2.1, .str r_.2.2.2.2.2.2.2.1, cB r_.2.2.2.2.2.2.2.2.1, cB r_.2.2.2.2.2.2.2.2.2.1, lstC z_ 6 3 r_.2.2.2.2.2.2.2.2.2.2.1.length, .mp 4, cB r_.2.2.2.2.2.2.2.2.2.2.2.2.1, cB r_.2.2.2.2.2.2.2.2.2.2.2.2.2.1, cB r_.2.2.2.2.2.2.2.2.2.2.2.2.2.2]]))) 4 (mapB (.i .i64) (fun x => cI x) (fun (x : Int) => (I x)) r_.2.2.2.2.2.2.2.2.2.2.2.1)) 5 (lstB zs 8 (r_.2.1.map e_TListener))) 6 (lstB z_ 3 (r_.2.2.2.2.2.2.2.2.2.2.1.map e_THeard))), 7⟩, (lstV zs 5 8 r_.2.1.length), weak_canon2 [0, 1, 2, 3, 4, 0, 5] [1, 2, 4, 5, 6] (by decide) (by decide) (by decide) (.cons (by decide) (.cons (by decide) (.cons (by decide) (.cons (by decide) (.cons (by decide) .nil))))) (.cons rfl (.c (lstC_ren rfl (by decide))) .nil) (.row (by decide) rfl (fr_map fun _ => rfl) (.row (by decide) rfl (fr_map fun _ => rfl) (.box (by decide) rfl .map (.box (by decide) rfl (blkAs_cells (.cons (.same rfl) (.cons (.same rfl) (.cons (.same rfl) (.cons (.same rfl) (.cons (.same rfl) (.cons (.same rfl) (.cons (.same rfl) (.cons (.same rfl) (.cons (lstC_ren rfl (by decide)) (.cons (.mp rfl (by decide)) (.cons (.same rfl) (.cons (.same rfl) (.cons (.same rfl) .nil)))))))))))))) (.box (by decide) rfl (blkAs_cells (.cons (.ref rfl (by decide)) .nil)) .nil))))), rfl, zs, (hz_len hzs hlen), z_, hz_, rfl, rfl, rfl⟩
  · replace h := ifF hc1 h
    refine Sv.skip ?_
    refine Sv.seq ?_
    refine Sv.seq ?_
    refine Sv.region ?_
    refine un (a1 rfl ?_)
    refine un (a1 (v := (I (wi (r_.1 + 1)))) rfl ?_)
    refine un (a1 rfl ?_)
    refine dnil ?_
    refine Sv.block ?_
    obtain ⟨kk, h⟩ := lim_some h
    refine Sv.weak (weak_canon [0, 1, 2, 3, 4, 5] rfl (by decide) (by decide) (by decide) (.cons rfl (avAs_free rfl) (.cons rfl (avAs_free rfl) (.cons rfl (.c (fn_as .nil (.cons (.ref rfl (by decide)) .nil))) (.cons rfl (.c (lstC_ren rfl (by decide))) .nil)))) (.row (by decide) rfl (fr_map fun _ => rfl) (.box (by decide) rfl .map (.box (by decide) rfl (blkAs_cells (.cons (.same rfl) (.cons (.same rfl) (.cons (.same rfl) (.cons (.same rfl) (.cons (.same rfl) (.cons (.same rfl) (.cons (.same rfl) (.cons (.same rfl) (.cons (lstC_ren rfl (by decide)) (.cons (.mp rfl (by decide)) (.cons (.same rfl) (.cons (.same rfl) (.cons (.same rfl) .nil)))))))))))))) (.box (by decide) rfl (blkAs_cells (.cons (.ref rfl (by decide)) .nil)) (.row (by decide) rfl (fr_map fun _ => rfl) .nil)))))) (slices_DeleteFunc_Listener_l0_ok (hz_len hzs hlen) hz_ h ?_ (fun s hs => hs))
    · intro s_2 del01 del13 del21 del31 del41 del51 del61 del71 del81 del91 del101 del111 del121 i_1 zs_2 hzs_2 zdel81 hzdel81 h _ hw1
      refine Sv.weak hw1 ?_
      refine Sv.seq ?_
      refine Sv.region ?_
      refine un (a1 rfl ?_)
      refine un (a1 rfl ?_)
      obtain ⟨r_2, hx3, h⟩ := bnd h
      refine un (a1 (v := (sufV zs_2 0 8 i_1.toNat s_2.length)) (s_suf rfl hzs_2 rfl rfl hx3) ?_)
      obtain ⟨row, hrow⟩ : ∃ row : (List TListener), row = (clrd s_2 i_1 ((⟨0, 0, [], false, false, false, false, false⟩ : TListener) : TListener)) := ⟨_, rfl⟩
      replace h := letAt hrow h
      have hlen1 : s_2.length = row.length := by rw [hrow]; exact len_clrd (sub_rng hx3)
      refine un (a2n (h' := upd _ 0 (lstB zs_2 8 (row.map e_TListener))) (n' := 6) rfl (by rw [hrow]; exact s_clr (e := e_TListener) (k := i_1) rfl (sub_rng hx3) rfl hzs_2 rfl) (fun h => by cases h) ?_)
      clear hrow
      try rw [hlen1]
      refine dnil ?_
      refine Sv.seq ?_
      refine Sv.region ?_
      refine un (a1 rfl ?_)
      refine un (a1 rfl ?_)
      obtain ⟨r_3, hx4, h⟩ := bnd h
      refine un (a1 (v := (cutV zs_2 0 8 r_3.length row.length)) (s_cutL rfl (hz_len hzs_2 hlen1) rfl rfl hx4) ?_)
      refine dweak (show Weak 5 _ ⟨(upd (upd (upd (upd (upd (fun _ => none) 1 (some (.c (.fn (.func 21) [] [.ref 1 1 0 0])))) 5 (some (I i_1))) 37 (some (I i_1))) 40 (some (I i_1))) 41 (some (lstV zs_2 0 8 r_3.length))), (upd (upd (upd (upd (upd (fun _ => none) 0 (lstB zs_2 8 (r_3.map e_TListener))) 1 (some (.cells 1 [[.ref 2 13 0 0]]))) 2 (some (.cells 13 [[.ro false 8 (del01.map e_TListener), .str del13, cI del21, cI del31, cI del41, .str del51, cB del61, cB del71, lstC zdel81 5 3 del81.length, .mp 4, cB del101, cB del111, cB del121]]))) 4 (mapB (.i .i64) (fun x => cI x) (fun (x : Int) => (I x)) del91)) 5 (lstB zdel81 3 (del81.map e_THeard))), 6⟩ from (weak_canon [0, 1, 2, 3, 4, 5] rfl (by decide) (by decide) (by decide) (.cons rfl (.c (cut_ren rfl (by decide) (cut_le hx4))) (.cons rfl (avAs_free rfl) (.cons rfl (avAs_free rfl) (.cons rfl (avAs_free rfl) (.cons rfl (.c (fn_as .nil (.cons (.ref rfl (by decide)) .nil))) .nil))))) (.row (by decide) rfl (fr_map fun _ => rfl) (.box (by decide) rfl .map (.box (by decide) rfl (blkAs_cells (.cons (.same rfl) (.cons (.same rfl) (.cons (.same rfl) (.cons (.same rfl) (.cons (.same rfl) (.cons (.same rfl) (.cons (.same rfl) (.cons (.same rfl) (.cons (lstC_ren rfl (by decide)) (.cons (.mp rfl (by decide)) (.cons (.same rfl) (.cons (.same rfl) (.cons (.same rfl) .nil)))))))))))))) (.box (by decide) rfl (blkAs_cells (.cons (.ref rfl (by decide)) .nil)) (.rowP (by decide) rfl (cutP hx4) (fr_map fun _ => rfl) .nil))))))) ?_
      refine un (a1 rfl ?_)
      refine dnil ?_
      refine Sv.ret ?_
      replace h := Option.some.inj h
      subst h
      exact ⟨_, .refl _, _, rfl, ⟨upd (fun _ => none) 0 (some (lstV zs_2 5 8 r_3.length)), (upd (upd (upd (upd (upd (fun _ => none) 1 (some (.cells 1 [[.ref 2 13 0 0]]))) 2 (some (.cells 13 [[.ro false 8 (del01.map e_TListener), .str del13, cI del21, cI del31, cI del41, .str del51, cB del61, cB del71, lstC zdel81 6 3 del81.length, .mp 4, cB del101, cB del111, cB del121]]))) 4 (mapB (.i .i64) (fun x => cI x) (fun (x : Int) => (I x)) del91)) 5 (lstB zs_2 8 (r_3.map e_TListener))) 6 (lstB zdel81 3 (del81.map e_THeard))), 7⟩, (lstV zs_2 5 8 r_3.length), weak_canon2 [0, 1, 2, 3, 4, 0, 5] [1, 2, 4, 5, 6] (by decide) (by decide) (by decide) (.cons (by decide) (.cons (by decide) (.cons (by decide) (.cons (by decide) (.cons (by decide) .nil))))) (.cons rfl (.c (lstC_ren rfl (by decide))) .nil) (.row (by decide) rfl (fr_map fun _ => rfl) (.row (by decide) rfl (fr_map fun _ => rfl) (.box (by decide) rfl .map (.box (by decide) rfl (blkAs_cells (.cons (.same rfl) (.cons (.same rfl) (.cons (.same rfl) (.cons (.same rfl) (.cons (.same rfl) (.cons (.same rfl) (.cons (.same rfl) (.cons (.same rfl) (.cons (lstC_ren rfl (by decide)) (.cons (.mp rfl (by decide)) (.cons (.same rfl) (.cons (.same rfl) (.cons (.same rfl) .nil)))))))))))))) (.box (by decide) rfl (blkAs_cells (.cons (.ref rfl (by decide)) .nil)) .nil))))), rfl, zs_2, (cut_nil (hz_len hzs_2 hlen1) hx4), zdel81, hzdel81, rfl, rfl, rfl⟩
def a6_c0 : ACode := (.region [⟨(some 55), (.bin .add (.tmp 36) (.const (.c (.val (.int .i64 1))))), none⟩, ⟨(some 36), (.mov (.tmp 55)), none⟩])
def a6_c1 : ACode := (.seq (.region [⟨(some 37), (.bin .lss (.tmp 36) (.tmp 35)), none⟩])
 (.seq (.cond (.tmp 37) .skip (.exit 0))
 (.seq (.block 1 (.seq (.region [⟨(some 38), (.iaddr 3 (.tmp 34) (.tmp 36)), none⟩, ⟨(some 39), (.load true 3 (.tmp 38)), none⟩, ⟨(some 14), (.box (.const (.agg [(.val (.int .i64 0)), (.val (.int .i64 0)), (.val (.bool false))]))), none⟩, ⟨none, (.store 3 (.tmp 14) (.tmp 39)), none⟩])
 (.seq (.region [⟨(some 40), (.load false 1 (.tmp 12)), none⟩, ⟨(some 41), (.nilc (.tmp 40)), none⟩, ⟨(some 42), (.faddr 10 (.tmp 41)), none⟩, ⟨(some 43), (.load false 1 (.tmp 42)), none⟩, ⟨(some 44), (.un .not (.tmp 43)), none⟩, ⟨(some 45), (.mov (.tmp 44)), none⟩, ⟨(some 46), (.load false 1 (.tmp 12)), (some (45, true))⟩, ⟨(some 47), (.nilc (.tmp 46)), (some (45, true))⟩, ⟨(some 48), (.faddr 11 (.tmp 47)), (some (45, true))⟩, ⟨(some 49), (.load false 1 (.tmp 48)), (some (45, true))⟩, ⟨(some 50), (.un .not (.tmp 49)), (some (45, true))⟩, ⟨(some 51), (.pick (.tmp 45) (.tmp 50) (.const (.c (.val (.bool false))))), none⟩])
 (.cond (.tmp 51) (.region [⟨(some 52), (.load false 1 (.tmp 12)), none⟩, ⟨(some 53), (.load true 3 (.tmp 14)), none⟩, ⟨(some 54), (.call 18 [(.tmp 52), (.tmp 53)]), none⟩]) .skip))))
 a6_c0)))
def a6 : AFunc := ⟨3, [(.tmp 6), (.tmp 7), (.tmp 8), (.tmp 9)], (.seq (.region [⟨(some 3), (.box (.tmp 0)), none⟩, ⟨(some 5), (.box (.tmp 2)), none⟩, ⟨(some 6), (.mov (.const (.c (.ro true 3 [])))), none⟩, ⟨(some 7), (.mov (.const (.c (.val (.bool false))))), none⟩, ⟨(some 8), (.mov (.const (.c (.ro true 8 [])))), none⟩, ⟨(some 9), (.mov (.const (.c (.val (.int .i64 0))))), none⟩])
 (.seq (.region [⟨(some 17), (.load true 2 (.tmp 3)), none⟩, ⟨(some 18), (.mov (.tmp 1)), none⟩, ⟨(some 19), (.load true 7 (.tmp 5)), none⟩, ⟨(some 20), (.call 16 [(.tmp 17), (.tmp 18), (.tmp 19)]), none⟩, ⟨(some 16), (.mov (.tmp 20)), none⟩, ⟨(some 21), (.ext (.tmp 16) 0), none⟩, ⟨(some 22), (.ext (.tmp 16) 1), none⟩, ⟨(some 10), (.mov (.tmp 21)), none⟩, ⟨(some 11), (.mov (.tmp 22)), none⟩])
 (.seq (.seq (.region [⟨(some 23), (.mov (.tmp 11)), none⟩, ⟨(some 24), (.bin .neq (.tmp 23) (.const (.c (.val (.int .i64 0))))), none⟩])
 (.cond (.tmp 24) (.seq (.region [⟨(some 25), (.mov (.tmp 11)), none⟩, ⟨(some 6), (.mov (.const (.c (.ro true 3 [])))), none⟩, ⟨(some 7), (.mov (.const (.c (.val (.bool false))))), none⟩, ⟨(some 8), (.mov (.const (.c (.ro true 8 [])))), none⟩, ⟨(some 9), (.mov (.tmp 25)), none⟩])
 .ret) .skip))
 (.seq (.region [⟨(some 26), (.mov (.tmp 1)), none⟩, ⟨(some 27), (.load true 7 (.tmp 5)), none⟩, ⟨(some 28), (.mkmap (.i .i64)), none⟩, ⟨(some 29), (.build [(.ro true 8 []), (.str []), (.val (.int .i64 0)), (.val (.int .i64 0)), (.val (.int .i64 0)), (.str []), (.val (.bool false)), (.val (.bool false)), (.ro true 3 []), (.val (.map none)), (.val (.bool false)), (.val (.bool false)), (.val (.bool false))] [(0, (1, (.tmp 26))), (1, (7, (.tmp 27))), (9, (1, (.tmp 28)))]), none⟩, ⟨(some 30), (.box (.tmp 29)), none⟩, ⟨(some 12), (.box (.const (.c (.val (.pointer none))))), none⟩, ⟨none, (.store 1 (.tmp 12) (.tmp 30)), none⟩])
 (.seq (.seq (.region [⟨(some 31), (.mov (.tmp 10)), none⟩, ⟨(some 32), (.faddr 5 (.tmp 5)), none⟩, ⟨(some 33), (.load false 1 (.tmp 32)), none⟩, ⟨(some 34), (.call 17 [(.tmp 31), (.tmp 33)]), none⟩, ⟨(some 35), (.len (.tmp 34)), none⟩, ⟨(some 36), (.mov (.const (.c (.val (.int .i64 0))))), none⟩])
 (.block 0 (.loop a6_c1)))
 (.seq (.region [⟨(some 56), (.mov (.tmp 1)), none⟩, ⟨(some 57), (.call 20 [(.tmp 56)]), none⟩, ⟨(some 58), (.mkfn (.func 21) [] [(.tmp 12)]), none⟩, ⟨(some 59), (.call 19 [(.tmp 57), (.tmp 58)]), none⟩, ⟨(some 15), (.mov (.tmp 59)), none⟩])
 (.seq (.drawn (.fin [(⟨(some 60), (.load false 1 (.tmp 12)), none⟩, (0, 0)), (⟨(some 61), (.nilc (.tmp 60)), none⟩, (0, 1)), (⟨(some 62), (.faddr 8 (.tmp 61)), none⟩, (0, 2)), (⟨(some 63), (.load false 1 (.tmp 62)), none⟩, (0, 3)), (⟨(some 64), (.load false 1 (.tmp 12)), none⟩, (0, 4)), (⟨(some 65), (.nilc (.tmp 64)), none⟩, (0, 5)), (⟨(some 66), (.faddr 12 (.tmp 65)), none⟩, (0, 6)), (⟨(some 67), (.load false 1 (.tmp 66)), none⟩, (0, 7)), (⟨(some 68), (.mov (.tmp 15)), none⟩, (0, 8)), (⟨(some 6), (.mov (.tmp 63)), none⟩, (0, 9)), (⟨(some 7), (.mov (.tmp 67)), none⟩, (0, 10)), (⟨(some 8), (.mov (.tmp 68)), none⟩, (0, 11)), (⟨(some 9), (.mov (.const (.c (.val (.int .i64 0))))), none⟩, (0, 12))]))
 .ret)))))))⟩
set_option maxRecDepth 100000 in
theorem c6 : compFunc Tryd.prog 6 = some a6 := by kernel_rfl
def event_Send_post (r : ((List THeard) × Bool × (List TListener) × Int)) : AV → Heap → Nat → Prop := fun v h' n' => ∃ z0 : Bool, (z0 = true → r.1 = []) ∧ ∃ z1 : Bool, (z1 = true → r.2.2.1 = []) ∧ v = (.tup [(lstV z0 0 3 r.1.length), (B r.2.1), (lstV z1 1 8 r.2.2.1.length), (I r.2.2.2)]) ∧ (h' = (upd (upd (fun _ => none) 0 (lstB z0 3 (r.1.map e_THeard))) 1 (lstB z1 8 (r.2.2.1.map e_TListener)))) ∧ n' = 2
abbrev event_Send_l0_H (l_ : (List TListener)) (r_1 : (List Tstep)) (F_ : (List TListener) → (List UInt8) → Int → Int → Int → (List UInt8) → Bool → Bool → (List THeard) → (List (Int × Int)) → Bool → Bool → Bool → (List Tstep) → Int → Option ((List THeard) × Bool × (List TListener) × Int)) (o : ((List THeard) × Bool × (List TListener) × Int)) (R_ : St → Prop) : Prop := ∀ (s0 : (List TListener)) (s1 : (List UInt8)) (s2 : Int) (s3 : Int) (s4 : Int) (s5 : (List UInt8)) (s6 : Bool) (s7 : Bool) (s8 : (List THeard)) (s9 : (List (Int × Int))) (s10 : Bool) (s11 : Bool) (s12 : Bool) (v34 : (List Tstep)) (v36 : Int) (zs8 : Bool) (_ : zs8 = true → s8 = []) (zv34 : Bool) (_ : zv34 = true → v34 = []), F_ s0 s1 s2 s3 s4 s5 s6 s7 s8 s9 s10 s11 s12 v34 v36 = some o → ∀ s, Weak 0 s ⟨(upd (upd (upd (upd (upd (fun _ => none) 1 (some (.c (.ro false 8 (l_.map e_TListener))))) 12 (some (.c (.ref 0 1 0 0)))) 34 (some (lstV zv34 4 3 v34.length))) 35 (some (I (r_1.length : Int)))) 36 (some (I v36))), (upd (upd (upd (upd (upd (fun _ => none) 0 (some (.cells 1 [[.ref 1 13 0 0]]))) 1 (some (.cells 13 [[.ro false 8 (s0.map e_TListener), .str s1, cI s2, cI s3, cI s4, .str s5, cB s6, cB s7, lstC zs8 2 3 s8.length, .mp 3, cB s10, cB s11, cB s12]]))) 2 (lstB zs8 3 (s8.map e_THeard))) 3 (mapB (.i .i64) (fun x => cI x) (fun (x : Int) => (I x)) s9)) 4 (lstB zv34 3 (v34.map e_Tstep))), 5⟩ → R_ s
abbrev event_Send_l0_E0 (l_ : (List TListener)) (F_ : (List TListener) → (List UInt8) → Int → Int → Int → (List UInt8) → Bool → Bool → (List THeard) → (List (Int × Int)) → Bool → Bool → Bool → Option ((List THeard) × Bool × (List TListener) × Int)) (o : ((List THeard) × Bool × (List TListener) × Int)) (R_ : St → Prop) : Prop := ∀ (s01 : (List TListener)) (s13 : (List UInt8)) (s21 : Int) (s31 : Int) (s41 : Int) (s51 : (List UInt8)) (s61 : Bool) (s71 : Bool) (s81 : (List THeard)) (s91 : (List (Int × Int))) (s101 : Bool) (s111 : Bool) (s121 : Bool) (zs81 : Bool) (_ : zs81 = true → s81 = []), F_ s01 s13 s21 s31 s41 s51 s61 s71 s81 s91 s101 s111 s121 = some o → ∀ s, Weak 0 s ⟨(upd (upd (fun _ => none) 1 (some (.c (.ro false 8 (l_.map e_TListener))))) 12 (some (.c (.ref 0 1 0 0)))), (upd (upd (upd (upd (fun _ => none) 0 (some (.cells 1 [[.ref 1 13 0 0]]))) 1 (some (.cells 13 [[.ro false 8 (s01.map e_TListener), .str s13, cI s21, cI s31, cI s41, .str s51, cB s61, cB s71, lstC zs81 2 3 s81.length, .mp 3, cB s101, cB s111, cB s121]]))) 2 (lstB zs81 3 (s81.map e_THeard))) 3 (mapB (.i .i64) (fun x => cI x) (fun (x : Int) => (I x)) s91)), 4⟩ → R_ s
noncomputable def event_Send_j2 (v36 : Int) (l_ : (List TListener)) (r_1 : (List Tstep)) (self : (List TListener) → (List UInt8) → Int → Int → Int → (List UInt8) → Bool → Bool → (List THeard) → (List (Int × Int)) → Bool → Bool → Bool → (List Tstep) → Int → Option ((List THeard) × Bool × (List TListener) × Int)) (K0_ : (List TListener) → (List UInt8) → Int → Int → Int → (List UInt8) → Bool → Bool → (List THeard) → (List (Int × Int)) → Bool → Bool → Bool → Option ((List THeard) × Bool × (List TListener) × Int)) (s02 : (List TListener)) (s14 : (List UInt8)) (s22 : Int) (s32 : Int) (s42 : Int) (s52 : (List UInt8)) (s62 : Bool) (s72 : Bool) (s82 : (List THeard)) (s92 : (List (Int × Int))) (s102 : Bool) (s112 : Bool) (s122 : Bool) (v341 : (List Tstep)) : Option ((List THeard) × Bool × (List TListener) × Int) :=
  self s02 s14 s22 s32 s42 s52 s62 s72 s82 s92 s102 s112 s122 v341 (wi (v36 + 1))
theorem event_Send_j2_ok {mL : Int} {Q : AExit → St → Prop} {v36 : Int} {l_ : (List TListener)} {r_1 : (List Tstep)} {self : (List TListener) → (List UInt8) → Int → Int → Int → (List UInt8) → Bool → Bool → (List THeard) → (List (Int × Int)) → Bool → Bool → Bool → (List Tstep) → Int → Option ((List THeard) × Bool × (List TListener) × Int)} {K0_ : (List TListener) → (List UInt8) → Int → Int → Int → (List UInt8) → Bool → Bool → (List THeard) → (List (Int × Int)) → Bool → Bool → Bool → Option ((List THeard) × Bool × (List TListener) × Int)} {s02 : (List TListener)} {s14 : (List UInt8)} {s22 : Int} {s32 : Int} {s42 : Int} {s52 : (List UInt8)} {s62 : Bool} {s72 : Bool} {s82 : (List THeard)} {s92 : (List (Int × Int))} {s102 : Bool} {s112 : Bool} {s122 : Bool} {v341 : (List Tstep)} {zs82 : Bool} (hzs82 : zs82 = true → s82 = []) {zv341 : Bool} (hzv341 : zv341 = true → v341 = []) {o : ((List THeard) × Bool × (List TListener) × Int)} (h : event_Send_j2 v36 l_ r_1 self K0_ s02 s14 s22 s32 s42 s52 s62 s72 s82 s92 s102 s112 s122 v341 = some o)
    (hself : event_Send_l0_H l_ r_1 self o (Q .normal))
    (hK0 : event_Send_l0_E0 l_ K0_ o (Q (.exit 0)))
    (hr : ∀ s, Ends a6.results 0 (event_Send_post o) .ret s → Q .ret s) :
    Sv Tryd.prog (GG mL) 0 a6_c0 Q ⟨(upd (upd (upd (upd (upd (fun _ => none) 1 (some (.c (.ro false 8 (l_.map e_TListener))))) 12 (some (.c (.ref 0 1 0 0)))) 34 (some (lstV zv341 4 3 v341.length))) 35 (some (I (r_1.length : Int)))) 36 (some (I v36))), (upd (upd (upd (upd (upd (fun _ => none) 0 (some (.cells 1 [[.ref 1 13 0 0]]))) 1 (some (.cells 13 [[.ro false 8 (s02.map e_TListener), .str s14, cI s22, cI s32, cI s42, .str s52, cB s62, cB s72, lstC zs82 2 3 s82.length, .mp 3, cB s102, cB s112, cB s122]]))) 2 (lstB zs82 3 (s82.map e_THeard))) 3 (mapB (.i .i64) (fun x => cI x) (fun (x : Int) => (I x)) s92)) 4 (lstB zv341 3 (v341.map e_Tstep))), 5⟩ := by
  unfold event_Send_j2 at h
  refine Sv.region ?_
  refine un (a1 (v := (I (wi (v36 + 1)))) rfl ?_)
  refine un (a1 rfl ?_)
  refine dnil ?_
  exact hself s02 s14 s22 s32 s42 s52 s62 s72 s82 s92 s102 s112 s122 v341 (wi (v36 + 1)) zs82 hzs82 zv341 hzv341 h _ (weak_canon [0, 1, 2, 3, 4] rfl (by decide) (by decide) (fun b h => absurd h (Nat.not_lt_zero _)) (.cons rfl (avAs_free rfl) (.cons rfl (avAs_free rfl) (.cons rfl (.c (lstC_ren rfl (by decide))) (.cons rfl (.c (.ref rfl (by decide))) (.cons rfl (avAs_free rfl) .nil))))) (.row (by decide) rfl (fr_map fun _ => rfl) (.box (by decide) rfl .map (.row (by decide) rfl (fr_map fun _ => rfl) (.box (by decide) rfl (blkAs_cells (.cons (.same rfl) (.cons (.same rfl) (.cons (.same rfl) (.cons (.same rfl) (.cons (.same rfl) (.cons (.same rfl) (.cons (.same rfl) (.cons (.same rfl) (.cons (lstC_ren rfl (by decide)) (.cons (.mp rfl (by decide)) (.cons (.same rfl) (.cons (.same rfl) (.cons (.same rfl) .nil)))))))))))))) (.box (by decide) rfl (blkAs_cells (.cons (.ref rfl (by decide)) .nil)) .nil))))))
abbrev event_Send_l0_I (l_ : (List TListener)) (r_1 : (List Tstep)) (F_ : Nat → (List TListener) → (List UInt8) → Int → Int → Int → (List UInt8) → Bool → Bool → (List THeard) → (List (Int × Int)) → Bool → Bool → Bool → (List Tstep) → Int → Option ((List THeard) × Bool × (List TListener) × Int)) (o : ((List THeard) × Bool × (List TListener) × Int)) : Nat → St → Prop := fun k s => ∃ (s0 : (List TListener)), ∃ (s1 : (List UInt8)), ∃ (s2 : Int), ∃ (s3 : Int), ∃ (s4 : Int), ∃ (s5 : (List UInt8)), ∃ (s6 : Bool), ∃ (s7 : Bool), ∃ (s8 : (List THeard)), ∃ (s9 : (List (Int × Int))), ∃ (s10 : Bool), ∃ (s11 : Bool), ∃ (s12 : Bool), ∃ (v34 : (List Tstep)), ∃ (v36 : Int), ∃ (zs8 : Bool), (zs8 = true → s8 = []) ∧ ∃ (zv34 : Bool), (zv34 = true → v34 = []) ∧ F_ k s0 s1 s2 s3 s4 s5 s6 s7 s8 s9 s10 s11 s12 v34 v36 = some o ∧ s = ⟨(upd (upd (upd (upd (upd (fun _ => none) 1 (some (.c (.ro false 8 (l_.map e_TListener))))) 12 (some (.c (.ref 0 1 0 0)))) 34 (some (lstV zv34 4 3 v34.length))) 35 (some (I (r_1.length : Int)))) 36 (some (I v36))), (upd (upd (upd (upd (upd (fun _ => none) 0 (some (.cells 1 [[.ref 1 13 0 0]]))) 1 (some (.cells 13 [[.ro false 8 (s0.map e_TListener), .str s1, cI s2, cI s3, cI s4, .str s5, cB s6, cB s7, lstC zs8 2 3 s8.length, .mp 3, cB s10, cB s11, cB s12]]))) 2 (lstB zs8 3 (s8.map e_THeard))) 3 (mapB (.i .i64) (fun x => cI x) (fun (x : Int) => (I x)) s9)) 4 (lstB zv34 3 (v34.map e_Tstep))), 5⟩
noncomputable def event_Send_l0 (r_1 : (List Tstep)) (l_ : (List TListener)) (K0_ : (List TListener) → (List UInt8) → Int → Int → Int → (List UInt8) → Bool → Bool → (List THeard) → (List (Int × Int)) → Bool → Bool → Bool → Option ((List THeard) × Bool × (List TListener) × Int)) : Nat → (List TListener) → (List UInt8) → Int → Int → Int → (List UInt8) → Bool → Bool → (List THeard) → (List (Int × Int)) → Bool → Bool → Bool → (List Tstep) → Int → Option ((List THeard) × Bool × (List TListener) × Int)
  | 0, _, _, _, _, _, _, _, _, _, _, _, _, _, _, _ => none
  | k + 1, s0, s1, s2, s3, s4, s5, s6, s7, s8, s9, s10, s11, s12, v34, v36 =>
    if decide (v36 < (r_1.length : Int)) then
      (at? v34 v36).bind fun x_ =>
      if ((!s10) && (!s11)) then
        (clerestory_event_sending_do (⟨s0, (⟨s1, s2, s3, s4, s5, s6, s7⟩ : TEvent), s8, s9, s10, s11, s12⟩ : Tsending) x_).bind fun r_2 =>
        event_Send_j2 v36 l_ r_1 (event_Send_l0 r_1 l_ K0_ k) K0_ r_2.f_l r_2.f_e.f_Type r_2.f_e.Target r_2.f_e.X r_2.f_e.Y r_2.f_e.Key r_2.f_e.Bubbles r_2.f_e.Cancels r_2.f_heard r_2.f_gone r_2.f_stops r_2.f_all r_2.f_no v34
      else
        event_Send_j2 v36 l_ r_1 (event_Send_l0 r_1 l_ K0_ k) K0_ s0 s1 s2 s3 s4 s5 s6 s7 s8 s9 s10 s11 s12 v34
    else
      K0_ s0 s1 s2 s3 s4 s5 s6 s7 s8 s9 s10 s11 s12
theorem event_Send_l0_ok {mL : Int} {Q : AExit → St → Prop} {r_1 : (List Tstep)} {l_ : (List TListener)} {K0_ : (List TListener) → (List UInt8) → Int → Int → Int → (List UInt8) → Bool → Bool → (List THeard) → (List (Int × Int)) → Bool → Bool → Bool → Option ((List THeard) × Bool × (List TListener) × Int)} {k : Nat} {s0 : (List TListener)} {s1 : (List UInt8)} {s2 : Int} {s3 : Int} {s4 : Int} {s5 : (List UInt8)} {s6 : Bool} {s7 : Bool} {s8 : (List THeard)} {s9 : (List (Int × Int))} {s10 : Bool} {s11 : Bool} {s12 : Bool} {v34 : (List Tstep)} {v36 : Int} {zs8 : Bool} (hzs8 : zs8 = true → s8 = []) {zv34 : Bool} (hzv34 : zv34 = true → v34 = []) {o : ((List THeard) × Bool × (List TListener) × Int)} (h : event_Send_l0 r_1 l_ K0_ k s0 s1 s2 s3 s4 s5 s6 s7 s8 s9 s10 s11 s12 v34 v36 = some o)
    (hK0 : event_Send_l0_E0 l_ K0_ o (Q (.exit 0)))
    (hr : ∀ s, Ends a6.results 0 (event_Send_post o) .ret s → Q .ret s) :
    Sv Tryd.prog (GG mL) 0 (.loop a6_c1) Q ⟨(upd (upd (upd (upd (upd (fun _ => none) 1 (some (.c (.ro false 8 (l_.map e_TListener))))) 12 (some (.c (.ref 0 1 0 0)))) 34 (some (lstV zv34 4 3 v34.length))) 35 (some (I (r_1.length : Int)))) 36 (some (I v36))), (upd (upd (upd (upd (upd (fun _ => none) 0 (some (.cells 1 [[.ref 1 13 0 0]]))) 1 (some (.cells 13 [[.ro false 8 (s0.map e_TListener), .str s1, cI s2, cI s3, cI s4, .str s5, cB s6, cB s7, lstC zs8 2 3 s8.length, .mp 3, cB s10, cB s11, cB s12]]))) 2 (lstB zs8 3 (s8.map e_THeard))) 3 (mapB (.i .i64) (fun x => cI x) (fun (x : Int) => (I x)) s9)) 4 (lstB zv34 3 (v34.map e_Tstep))), 5⟩ := by
  refine Sv.loop (I := event_Send_l0_I l_ r_1 (event_Send_l0 r_1 l_ K0_) o) (fun k s hI => ?_) ⟨s0, s1, s2, s3, s4, s5, s6, s7, s8, s9, s10, s11, s12, v34, v36, zs8, hzs8, zv34, hzv34, h, rfl⟩
  clear h
  clear hzv34 hzs8 zv34 zs8 v36 v34 s12 s11 s10 s9 s8 s7 s6 s5 s4 s3 s2 s1 s0
  obtain ⟨s0, s1, s2, s3, s4, s5, s6, s7, s8, s9, s10, s11, s12, v34, v36, zs8, hzs8, zv34, hzv34, h, rfl⟩ := hI
  cases k with
  | zero => cases h
  | succ k =>
  rw [event_Send_l0] at h
  have hself : event_Send_l0_H l_ r_1 (event_Send_l0 r_1 l_ K0_ k) o (rnd 0 (event_Send_l0_I l_ r_1 (event_Send_l0 r_1 l_ K0_) o) k Q) := fun s0 s1 s2 s3 s4 s5 s6 s7 s8 s9 s10 s11 s12 v34 v36 zs8 hzs8 zv34 hzv34 h s hw => ⟨_, k, hw, Nat.lt_succ_self k, s0, s1, s2, s3, s4, s5, s6, s7, s8, s9, s10, s11, s12, v34, v36, zs8, hzs8, zv34, hzv34, h, rfl⟩
  refine Sv.seq ?_
  refine Sv.region ?_
  refine un (a1 (v := (B (decide (v36 < (r_1.length : Int))))) rfl ?_)
  refine dnil ?_
  refine Sv.seq ?_
  refine Sv.cond (b := decide (v36 < (r_1.length : Int))) rfl (fun hc2 => ?_) (fun hc2 => ?_)
  · replace h := ifT hc2 h
    refine Sv.skip ?_
    refine Sv.seq ?_
    refine Sv.block ?_
    refine Sv.seq ?_
    refine Sv.region ?_
    obtain ⟨x_, hx1, h⟩ := bnd h
    refine un (a1 (v := (.c (.ref 4 3 v36.toNat 0))) (s_iaddrL rfl rfl hzv34 hx1) ?_)
    refine un (a1 (v := (.agg [cI x_.f_node, cI x_.f_phase, cB x_.f_down])) (s_loadL (z := zv34) (e := e_Tstep) rfl rfl hzv34 hx1 rfl rfl) ?_)
    refine un (a2v (v := (.c (.ref 5 3 0 0))) (h' := upd _ 5 (some (.cells 3 [[cI 0, cI 0, cB false]]))) (n' := 6) rfl rfl (fun h => by cases h) ?_)
    refine un (a2n (h' := upd _ 5 (some (.cells 3 [[cI x_.f_node, cI x_.f_phase, cB x_.f_down]]))) (n' := 6) rfl rfl (fun h => by cases h) ?_)
    refine dnil ?_
    refine Sv.seq ?_
    refine Sv.region ?_
    refine un (a1 (v := (.c (.ref 1 13 0 0))) rfl ?_)
    refine un (a1 (v := (.c (.ref 1 13 0 0))) rfl ?_)
    refine un (a1 (v := (.c (.ref 1 13 0 10))) rfl ?_)
    refine un (a1 (v := (B s10)) rfl ?_)
    refine un (a1 (v := (B (!s10))) rfl ?_)
    refine un (a1 rfl ?_)
    refine gjoin 6 (d := 51) (v := (B ((!s10) && (!s11)))) (fun X hX => ?_) ?_
    · refine split2 (fun hc3 => ?_) (fun hc3 => ?_)
      · refine gt rfl (a1 (v := (.c (.ref 1 13 0 0))) rfl ?_)
        refine gt rfl (a1 (v := (.c (.ref 1 13 0 0))) rfl ?_)
        refine gt rfl (a1 (v := (.c (.ref 1 13 0 11))) rfl ?_)
        refine gt rfl (a1 (v := (B s11)) rfl ?_)
        refine gt rfl (a1 (v := (B (!s11))) rfl ?_)
        refine un (a1 (v := (B (!s11))) rfl ?_)
        refine dnil ?_
        exact hX _ (.putEq (by rw [hc3]; rfl) (.skip _ _ (.skip _ _ (.skip _ _ (.skip _ _ (.skip _ _ (.putEq (by rw [hc3]) (.refl _)) rfl) rfl) rfl) rfl) rfl))
      · refine gs rfl rfl ?_
        refine gs rfl rfl ?_
        refine gs rfl rfl ?_
        refine gs rfl rfl ?_
        refine gs rfl rfl ?_
        refine un (a1 (v := (B false)) rfl ?_)
        refine dnil ?_
        exact hX _ (.putEq (by rw [hc3]; rfl) (.skip _ _ (.skip _ _ (.skip _ _ (.skip _ _ (.skip _ _ (.putEq (by rw [hc3]) (.refl _)) rfl) rfl) rfl) rfl) rfl))
    refine dnil ?_
    refine Sv.cond (b := ((!s10) && (!s11))) rfl (fun hc4 => ?_) (fun hc4 => ?_)
    · replace h := ifT hc4 h
      refine Sv.region ?_
      refine un (a1 (v := (.c (.ref 1 13 0 0))) rfl ?_)
      refine un (a1 (v := (.agg [cI x_.f_node, cI x_.f_phase, cB x_.f_down])) rfl ?_)
      obtain ⟨r_2, hr3, h⟩ := bnd h
      refine un (ac_gen (bs := [1, 2, 3]) («as» := [(.c (.ref 1 13 0 0)), (.agg [cI x_.f_node, cI x_.f_phase, cB x_.f_down])]) (h2 := _) (h1 := (upd (upd (upd (fun _ => none) 1 (some (.cells 13 [[.ro false 8 (s0.map e_TListener), .str s1, cI s2, cI s3, cI s4, .str s5, cB s6, cB s7, lstC zs8 2 3 s8.length, .mp 3, cB s10, cB s11, cB s12]]))) 2 (lstB zs8 3 (s8.map e_THeard))) 3 (mapB (.i .i64) (fun x => cI x) (fun (x : Int) => (I x)) s9))) (clerestory_event_sending_do_ok hzs8 hr3) rfl (.cons (.c (.ref rfl (by decide))) (.cons (avAs_free rfl) .nil)) (hsub_refl _) (.cons rfl (.cons rfl (.cons rfl (.nil _)))) (fun h => by cases h) (by decide) (by decide) (.cons (.c (.ref rfl (by decide))) (.cons (avAs_free rfl) .nil)) (.box (by decide) rfl .map (.row (by decide) rfl (fr_map fun _ => rfl) (.box (by decide) rfl (blkAs_cells (.cons (.same rfl) (.cons (.same rfl) (.cons (.same rfl) (.cons (.same rfl) (.cons (.same rfl) (.cons (.same rfl) (.cons (.same rfl) (.cons (.same rfl) (.cons (lstC_ren rfl (by decide)) (.cons (.mp rfl (by decide)) (.cons (.same rfl) (.cons (.same rfl) (.cons (.same rfl) .nil)))))))))))))) .nil))) ?_)
      rintro _ _ _ hn ⟨z_2, hz_2, rfl, rfl, rfl⟩
      refine ⟨.inl rfl, (upd (upd (upd (rem [1, 2, 3] _) 1 (some (.cells 13 [[.ro false 8 (r_2.f_l.map e_TListener), .str r_2.f_e.f_Type, cI r_2.f_e.Target, cI r_2.f_e.X, cI r_2.f_e.Y, .str r_2.f_e.Key, cB r_2.f_e.Bubbles, cB r_2.f_e.Cancels, lstC z_2 6 3 r_2.f_heard.length, .mp 3, cB r_2.f_stops, cB r_2.f_all, cB r_2.f_no]]))) 3 (mapB (.i .i64) (fun x => cI x) (fun (x : Int) => (I x)) r_2.f_gone)) 6 (lstB z_2 3 (r_2.f_heard.map e_THeard))), fun hbd => (m3_cons (m3_row rfl (fr_map fun _ => rfl)) (m3_cons (m3_box rfl rfl) (m3_cons (m3_box rfl (by cases z_2 <;> rfl)) (m3_rem (in_cons (by decide) (in_cons (by decide) (in_cons (by decide) (in_nil _)))) (.cons (by decide) (.cons (by decide) (.cons (by decide) .nil))) hbd)))), (.tup []), 7, (by cases z_2 <;> rfl), rfl, ?_⟩
      refine dnil ?_
      exact Sv.weak (weak_canon [0, 1, 6, 3, 4] rfl (by decide) (by decide) (fun b h => absurd h (Nat.not_lt_zero _)) (.cons rfl (avAs_free rfl) (.cons rfl (avAs_free rfl) (.cons rfl (.c (lstC_ren rfl (by decide))) (.cons rfl (.c (.ref rfl (by decide))) (.cons rfl (avAs_free rfl) .nil))))) (.row (by decide) rfl (fr_map fun _ => rfl) (.box (by decide) rfl .map (.row (by decide) rfl (fr_map fun _ => rfl) (.box (by decide) rfl (blkAs_cells (.cons (.same rfl) (.cons (.same rfl) (.cons (.same rfl) (.cons (.same rfl) (.cons (.same rfl) (.cons (.same rfl) (.cons (.same rfl) (.cons (.same rfl) (.cons (lstC_ren rfl (by decide)) (.cons (.mp rfl (by decide)) (.cons (.same rfl) (.cons (.same rfl) (.cons (.same rfl) .nil)))))))))))))) (.box (by decide) rfl (blkAs_cells (.cons (.ref rfl (by decide)) .nil)) .nil)))))) (event_Send_j2_ok hz_2 hzv34 h hself hK0 hr)
    · replace h := ifF hc4 h
      refine Sv.skip ?_
      exact Sv.weak (weak_canon [0, 1, 2, 3, 4] rfl (by decide) (by decide) (fun b h => absurd h (Nat.not_lt_zero _)) (.cons rfl (avAs_free rfl) (.cons rfl (avAs_free rfl) (.cons rfl (.c (lstC_ren rfl (by decide))) (.cons rfl (.c (.ref rfl (by decide))) (.cons rfl (avAs_free rfl) .nil))))) (.row (by decide) rfl (fr_map fun _ => rfl) (.box (by decide) rfl .map (.row (by decide) rfl (fr_map fun _ => rfl) (.box (by decide) rfl (blkAs_cells (.cons (.same rfl) (.cons (.same rfl) (.cons (.same rfl) (.cons (.same rfl) (.cons (.same rfl) (.cons (.same rfl) (.cons (.same rfl) (.cons (.same rfl) (.cons (lstC_ren rfl (by decide)) (.cons (.mp rfl (by decide)) (.cons (.same rfl) (.cons (.same rfl) (.cons (.same rfl) .nil)))))))))))))) (.box (by decide) rfl (blkAs_cells (.cons (.ref rfl (by decide)) .nil)) .nil)))))) (event_Send_j2_ok hzs8 hzv34 h hself hK0 hr)
  · replace h := ifF hc2 h
    refine Sv.exit ?_
    exact hK0 s0 s1 s2 s3 s4 s5 s6 s7 s8 s9 s10 s11 s12 zs8 hzs8 h _ (weak_canon [0, 1, 2, 3] rfl (by decide) (by decide) (fun b h => absurd h (Nat.not_lt_zero _)) (.cons rfl (.c (.ref rfl (by decide))) (.cons rfl (avAs_free rfl) .nil)) (.box (by decide) rfl .map (.row (by decide) rfl (fr_map fun _ => rfl) (.box (by decide) rfl (blkAs_cells (.cons (.same rfl) (.cons (.same rfl) (.cons (.same rfl) (.cons (.same rfl) (.cons (.same rfl) (.cons (.same rfl) (.cons (.same rfl) (.cons (.same rfl) (.cons (lstC_ren rfl (by decide)) (.cons (.mp rfl (by decide)) (.cons (.same rfl) (.cons (.same rfl) (.cons (.same rfl) .nil)))))))))))))) (.box (by decide) rfl (blkAs_cells (.cons (.ref rfl (by decide)) .nil)) .nil)))))
/-- clerestory/event.Send -/
noncomputable def event_Send (d_ : TDoc) (l_ : (List TListener)) (e_ : TEvent) : Option ((List THeard) × Bool × (List TListener) × Int) :=
  (event_asked d_ l_ e_).bind fun r_ =>
  if (!decide (r_.2 = 0)) then
    some (([] : List THeard), false, ([] : List TListener), r_.2)
  else
    (event_steps r_.1 e_.Bubbles).bind fun r_1 =>
    lim fun kk => event_Send_l0 r_1 l_ (fun (s01 : (List TListener)) (s13 : (List UInt8)) (s21 : Int) (s31 : Int) (s41 : Int) (s51 : (List UInt8)) (s61 : Bool) (s71 : Bool) (s81 : (List THeard)) (s91 : (List (Int × Int))) (s101 : Bool) (s111 : Bool) (s121 : Bool) => 
        (slices_Clone_Listener l_).bind fun r_3 =>
        (slices_DeleteFunc_Listener r_3 s01 s13 s21 s31 s41 s51 s61 s71 s81 s91 s101 s111 s121).bind fun r_4 =>
        some (r_4.2.2.2.2.2.2.2.2.2.1, r_4.2.2.2.2.2.2.2.2.2.2.2.2.2, r_4.1, 0)) kk l_ e_.f_Type e_.Target e_.X e_.Y e_.Key e_.Bubbles e_.Cancels ([] : List THeard) ([] : List (Int × Int)) false false false r_1 0
theorem event_Send_ok {mL : Int} {d_ : TDoc} {l_ : (List TListener)} {e_ : TEvent} {r : ((List THeard) × Bool × (List TListener) × Int)} (h : event_Send d_ l_ e_ = some r) : ACalls Tryd.prog (GG mL) 6 [(.agg [.ro false 6 (d_.Nodes.map e_TNode), cB d_.Quirks]), (.c (.ro false 8 (l_.map e_TListener))), (.agg [.str e_.f_Type, cI e_.Target, cI e_.X, cI e_.Y, .str e_.Key, cB e_.Bubbles, cB e_.Cancels])] (fun _ => none) 0 (event_Send_post r) := by
  refine acalls_of_sv hmix c6 (R := event_Send_post r) ?_
  unfold event_Send at h
  refine Sv.seq ?_
  refine Sv.region ?_
  refine un (a2v (v := (.c (.ref 0 2 0 0))) (h' := upd _ 0 (some (.cells 2 [[.ro false 6 (d_.Nodes.map e_TNode), cB d_.Quirks]]))) (n' := 1) rfl rfl (fun h => by cases h) ?_)
  refine un (a2v (v := (.c (.ref 1 7 0 0))) (h' := upd _ 1 (some (.cells 7 [[.str e_.f_Type, cI e_.Target, cI e_.X, cI e_.Y, .str e_.Key, cB e_.Bubbles, cB e_.Cancels]]))) (n' := 2) rfl rfl (fun h => by cases h) ?_)
  refine un (a1 rfl ?_)
  refine un (a1 rfl ?_)
  refine un (a1 rfl ?_)
  refine un (a1 rfl ?_)
  refine dnil ?_
  refine Sv.seq ?_
  refine Sv.region ?_
  refine un (a1 (v := (.agg [.ro false 6 (d_.Nodes.map e_TNode), cB d_.Quirks])) rfl ?_)
  refine un (a1 rfl ?_)
  refine un (a1 (v := (.agg [.str e_.f_Type, cI e_.Target, cI e_.X, cI e_.Y, .str e_.Key, cB e_.Bubbles, cB e_.Cancels])) rfl ?_)
  obtain ⟨r_, hr1, h⟩ := bnd h
  refine un (ac_gen (bs := []) («as» := [(.agg [.ro false 6 (d_.Nodes.map e_TNode), cB d_.Quirks]), (.c (.ro false 8 (l_.map e_TListener))), (.agg [.str e_.f_Type, cI e_.Target, cI e_.X, cI e_.Y, .str e_.Key, cB e_.Bubbles, cB e_.Cancels])]) (h2 := _) (h1 := (fun _ => none)) (event_asked_ok hr1) rfl (.cons (avAs_free rfl) (.cons (avAs_free rfl) (.cons (avAs_free rfl) .nil))) (hsub_refl _) (.nil _) (fun _ => rfl) (by decide) (by decide) (.cons (avAs_free rfl) (.cons (avAs_free rfl) (.cons (avAs_free rfl) .nil))) .nil ?_)
  rintro _ _ _ hn ⟨z_, hz_, rfl, rfl, rfl⟩
  refine ⟨.inl rfl, (upd (rem [] _) 2 (lstB z_ 1 (r_.1.map eI))), fun hbd => (m3_cons (m3_row rfl (fr_map fun _ => rfl)) (m3_rem (in_nil _) (.cons (by decide) .nil) hbd)), (.tup [(lstV z_ 2 1 r_.1.length), (I r_.2)]), 3, (by cases z_ <;> rfl), rfl, ?_⟩
  refine un (a1 rfl ?_)
  refine un (a1 (v := (lstV z_ 2 1 r_.1.length)) rfl ?_)
  refine un (a1 (v := (I r_.2)) rfl ?_)
  refine un (a1 rfl ?_)
  refine un (a1 rfl ?_)
  refine dnil ?_
  refine Sv.seq ?_
  refine Sv.seq ?_
  refine Sv.region ?_
  refine un (a1 rfl ?_)
  refine un (a1 (v := (B (!decide (r_.2 = 0)))) rfl ?_)
  refine dnil ?_
  refine Sv.cond (b := (!decide (r_.2 = 0))) rfl (fun hc1 => ?_) (fun hc1 => ?_)
  · replace h := ifT hc1 h
    refine Sv.seq ?_
    refine Sv.region ?_
    refine un (a1 rfl ?_)
    refine un (a1 rfl ?_)
    refine un (a1 rfl ?_)
    refine un (a1 rfl ?_)
    refine un (a1 rfl ?_)
    refine dnil ?_
    refine Sv.ret ?_
    replace h := Option.some.inj h
    subst h
    exact ⟨_, .refl _, _, rfl, ⟨upd (fun _ => none) 0 (some (.tup [(lstV true 0 3 ([] : List THeard).length), (B false), (lstV true 1 8 ([] : List TListener).length), (I r_.2)])), (upd (upd (fun _ => none) 0 (lstB true 3 (([] : List THeard).map e_THeard))) 1 (lstB true 8 (([] : List TListener).map e_TListener))), 2⟩, (.tup [(lstV true 0 3 ([] : List THeard).length), (B false), (lstV true 1 8 ([] : List TListener).length), (I r_.2)]), weak_canon2 [1000, 1001] [0, 1] (by decide) (by decide) (fun b h => absurd h (Nat.not_lt_zero _)) (.cons (by decide) (.cons (by decide) .nil)) (.cons rfl (avAs_tup (.cons (.c (.same rfl)) (.cons (avAs_free rfl) (.cons (.c (.same rfl)) (.cons (avAs_free rfl) .nil))))) .nil) (.non (by decide) (.non (by decide) .nil)), rfl, true, (fun _ => rfl), true, (fun _ => rfl), rfl, rfl, rfl⟩
  · replace h := ifF hc1 h
    refine Sv.skip ?_
    refine Sv.seq ?_
    refine Sv.region ?_
    refine un (a1 rfl ?_)
    refine un (a1 (v := (.agg [.str e_.f_Type, cI e_.Target, cI e_.X, cI e_.Y, .str e_.Key, cB e_.Bubbles, cB e_.Cancels])) rfl ?_)
    refine un (a2v (v := (.c (.mp 3))) (h' := upd _ 3 (mapB (.i .i64) (fun x => cI x) (fun (x : Int) => (I x)) ([] : List (Int × Int)))) (n' := 4) rfl rfl (fun h => by cases h) ?_)
    refine un (a1 (v := (.agg [.ro false 8 (l_.map e_TListener), .str e_.f_Type, cI e_.Target, cI e_.X, cI e_.Y, .str e_.Key, cB e_.Bubbles, cB e_.Cancels, .ro true 3 [], .mp 3, cB false, cB false, cB false])) rfl ?_)
    refine un (a2v (v := (.c (.ref 4 13 0 0))) (h' := upd _ 4 (some (.cells 13 [[.ro false 8 (l_.map e_TListener), .str e_.f_Type, cI e_.Target, cI e_.X, cI e_.Y, .str e_.Key, cB e_.Bubbles, cB e_.Cancels, .ro true 3 [], .mp 3, cB false, cB false, cB false]]))) (n' := 5) rfl rfl (fun h => by cases h) ?_)
    refine un (a2v (v := (.c (.ref 5 1 0 0))) (h' := upd _ 5 (some (.cells 1 [[.val (.pointer none)]]))) (n' := 6) rfl rfl (fun h => by cases h) ?_)
    refine un (a2n (h' := upd _ 5 (some (.cells 1 [[.ref 4 13 0 0]]))) (n' := 6) rfl rfl (fun h => by cases h) ?_)
    refine dnil ?_
    refine Sv.seq ?_
    refine Sv.seq ?_
    refine Sv.region ?_
    refine un (a1 rfl ?_)
    refine un (a1 (v := (.c (.ref 1 7 0 5))) rfl ?_)
    refine un (a1 (v := (B e_.Bubbles)) rfl ?_)
    obtain ⟨r_1, hr2, h⟩ := bnd h
    refine un (ac_gen (bs := []) («as» := [(.c (.ro false 1 (r_.1.map eI))), (B e_.Bubbles)]) (h2 := (upd _ 2 none)) (h1 := (fun _ => none)) (event_steps_ok hr2) rfl (.cons (.c (lstC_ro (es := List.map eI r_.1) rfl (List.length_map eI).symm (map_nil_of hz_) (gone rfl) (fr_map fun _ => rfl))) (.cons (avAs_free rfl) .nil)) (hsub_none (hsub_refl _)) (.nil _) (fun _ => rfl) (by decide) (by decide) (.cons (avAs_free rfl) (.cons (avAs_free rfl) .nil)) .nil ?_)
    rintro _ _ _ hn ⟨z_1, hz_1, rfl, rfl, rfl⟩
    refine ⟨.inr ⟨(by cases z_1 <;> rfl), (.row (cl_map fun _ => rfl) .nil)⟩, (upd (rem [] _) 6 (lstB z_1 3 (r_1.map e_Tstep))), fun hbd => (m3_cons (m3_row rfl (fr_map fun _ => rfl)) (m3_rem (in_nil _) (.cons (by decide) .nil) hbd)), (lstV z_1 6 3 r_1.length), 7, (by cases z_1 <;> rfl), rfl, ?_⟩
    refine un (a1 (v := (I (r_1.length : Int))) (s_lenL rfl (len_nil_of hz_1)) ?_)
    refine un (a1 rfl ?_)
    refine dnil ?_
    refine Sv.block ?_
    obtain ⟨kk, h⟩ := lim_some h
    refine Sv.weak (weak_canon [5, 4, 1000, 3, 6] rfl (by decide) (by decide) (fun b h => absurd h (Nat.not_lt_zero _)) (.cons rfl (avAs_free rfl) (.cons rfl (avAs_free rfl) (.cons rfl (.c (lstC_ren rfl (by decide))) (.cons rfl (.c (.ref rfl (by decide))) (.cons rfl (avAs_free rfl) .nil))))) (.row (by decide) rfl (fr_map fun _ => rfl) (.box (by decide) rfl .map (.non (by decide) (.box (by decide) rfl (blkAs_cells (.cons (.same rfl) (.cons (.same rfl) (.cons (.same rfl) (.cons (.same rfl) (.cons (.same rfl) (.cons (.same rfl) (.cons (.same rfl) (.cons (.same rfl) (.cons (.same rfl) (.cons (.mp rfl (by decide)) (.cons (.same rfl) (.cons (.same rfl) (.cons (.same rfl) .nil)))))))))))))) (.box (by decide) rfl (blkAs_cells (.cons (.ref rfl (by decide)) .nil)) .nil)))))) (event_Send_l0_ok (fun _ => rfl) hz_1 h ?_ (fun s hs => hs))
    · intro s01 s13 s21 s31 s41 s51 s61 s71 s81 s91 s101 s111 s121 zs81 hzs81 h _ hw1
      refine Sv.weak hw1 ?_
      refine Sv.seq ?_
      refine Sv.region ?_
      refine un (a1 rfl ?_)
      obtain ⟨r_3, hr4, h⟩ := bnd h
      refine un (ac_gen (bs := []) («as» := [(.c (.ro false 8 (l_.map e_TListener)))]) (h2 := _) (h1 := (fun _ => none)) (slices_Clone_Listener_ok hr4) rfl (.cons (avAs_free rfl) .nil) (hsub_refl _) (.nil _) (fun _ => rfl) (by decide) (by decide) (.cons (avAs_free rfl) .nil) .nil ?_)
      rintro _ _ _ hn ⟨z_3, hz_3, rfl, rfl, rfl⟩
      refine ⟨.inl rfl, (upd (rem [] _) 4 (lstB z_3 8 (r_3.map e_TListener))), fun hbd => (m3_cons (m3_row rfl (fr_map fun _ => rfl)) (m3_rem (in_nil _) (.cons (by decide) .nil) hbd)), (lstV z_3 4 8 r_3.length), 5, (by cases z_3 <;> rfl), rfl, ?_⟩
      refine un (a1 (v := (.c (.fn (.func 21) [] [.ref 0 1 0 0]))) rfl ?_)
      obtain ⟨r_4, hr5, h⟩ := bnd h
      refine un (ac_gen (bs := [4, 0, 1, 2, 3]) («as» := [(lstV z_3 4 8 r_3.length), (.c (.fn (.func 21) [] [.ref 0 1 0 0]))]) (h2 := _) (h1 := (upd (upd (upd (upd (upd (fun _ => none) 4 (lstB z_3 8 (r_3.map e_TListener))) 0 (some (.cells 1 [[.ref 1 13 0 0]]))) 1 (some (.cells 13 [[.ro false 8 (s01.map e_TListener), .str s13, cI s21, cI s31, cI s41, .str s51, cB s61, cB s71, lstC zs81 2 3 s81.length, .mp 3, cB s101, cB s111, cB s121]]))) 2 (lstB zs81 3 (s81.map e_THeard))) 3 (mapB (.i .i64) (fun x => cI x) (fun (x : Int) => (I x)) s91))) (slices_DeleteFunc_Listener_ok hz_3 hzs81 hr5) rfl (.cons (.c (lstC_ren rfl (by decide))) (.cons (.c (fn_as .nil (.cons (.ref rfl (by decide)) .nil))) .nil)) (hsub_refl _) (.cons rfl (.cons rfl (.cons rfl (.cons rfl (.cons rfl (.nil _)))))) (fun h => by cases h) (by decide) (by decide) (.cons (.c (lstC_ren rfl (by decide))) (.cons (.c (fn_as .nil (.cons (.ref rfl (by decide)) .nil))) .nil)) (.box (by decide) rfl .map (.row (by decide) rfl (fr_map fun _ => rfl) (.box (by decide) rfl (blkAs_cells (.cons (.same rfl) (.cons (.same rfl) (.cons (.same rfl) (.cons (.same rfl) (.cons (.same rfl) (.cons (.same rfl) (.cons (.same rfl) (.cons (.same rfl) (.cons (lstC_ren rfl (by decide)) (.cons (.mp rfl (by decide)) (.cons (.same rfl) (.cons (.same rfl) (.cons (.same rfl) .nil)))))))))))))) (.box (by decide) rfl (blkAs_cells (.cons (.ref rfl (by decide)) .nil)) (.row (by decide) rfl (fr_map fun _ => rfl) .nil))))) ?_)
      rintro _ _ _ hn ⟨z_4, hz_4, z_5, hz_5, rfl, rfl, rfl⟩
      refine ⟨.inl rfl, (upd (upd (upd (upd (upd (rem [4, 0, 1, 2, 3] _) 0 (some (.cells 1 [[.ref 1 13 0 0]]))) 1 (some (.cells 13 [[.ro false 8 (r_4.2.1.map e_TListener), .str r_4.2.2.1, cI r_4.2.2.2.1, cI r_4.2.2.2.2.1, cI r_4.2.2.2.2.2.1, .str r_4.2.2.2.2.2.2.1, cB r_4.2.2.2.2.2.2.2.1, cB r_4.2.2.2.2.2.2.2.2.1, lstC z_5 6 3 r_4.2.2.2.2.2.2.2.2.2.1.length, .mp 3, cB r_4.2.2.2.2.2.2.2.2.2.2.2.1, cB r_4.2.2.2.2.2.2.2.2.2.2.2.2.1, cB r_4.2.2.2.2.2.2.2.2.2.2.2.2.2]]))) 3 (mapB (.i .i64) (fun x => cI x) (fun (x : Int) => (I x)) r_4.2.2.2.2.2.2.2.2.2.2.1)) 5 (lstB z_4 8 (r_4.1.map e_TListener))) 6 (lstB z_5 3 (r_4.2.2.2.2.2.2.2.2.2.1.map e_THeard))), fun hbd => (m3_cons (m3_row rfl (fr_map fun _ => rfl)) (m3_cons (m3_row rfl (fr_map fun _ => rfl)) (m3_cons (m3_box rfl rfl) (m3_cons (m3_box rfl (by cases z_5 <;> rfl)) (m3_cons (m3_box rfl rfl) (m3_rem (in_cons (by decide) (in_cons (by decide) (in_cons (by decide) (in_cons (by decide) (in_cons (by decide) (in_nil _)))))) (.cons (by decide) (.cons (by decide) (.cons (by decide) (.cons (by decide) (.cons (by decide) .nil))))) hbd)))))), (lstV z_4 5 8 r_4.1.length), 7, (by cases z_4 <;> cases z_5 <;> rfl), rfl, ?_⟩
      refine un (a1 rfl ?_)
      refine dnil ?_
      refine Sv.seq ?_
      refine Sv.drawn ?_
      refine un (a1 (v := (.c (.ref 1 13 0 0))) rfl ?_)
      refine un (a1 (v := (.c (.ref 1 13 0 0))) rfl ?_)
      refine un (a1 (v := (.c (.ref 1 13 0 8))) rfl ?_)
      refine un (a1 (v := (lstV z_5 6 3 r_4.2.2.2.2.2.2.2.2.2.1.length)) rfl ?_)
      refine un (a1 (v := (.c (.ref 1 13 0 0))) rfl ?_)
      refine un (a1 (v := (.c (.ref 1 13 0 0))) rfl ?_)
      refine un (a1 (v := (.c (.ref 1 13 0 12))) rfl ?_)
      refine un (a1 (v := (B r_4.2.2.2.2.2.2.2.2.2.2.2.2.2)) rfl ?_)
      refine un (a1 rfl ?_)
      refine un (a1 rfl ?_)
      refine un (a1 rfl ?_)
      refine un (a1 rfl ?_)
      refine un (a1 rfl ?_)
      refine dnil ?_
      refine Sv.ret ?_
      replace h := Option.some.inj h
      subst h
      exact ⟨_, .refl _, _, rfl, ⟨upd (fun _ => none) 0 (some (.tup [(lstV z_5 0 3 r_4.2.2.2.2.2.2.2.2.2.1.length), (B r_4.2.2.2.2.2.2.2.2.2.2.2.2.2), (lstV z_4 1 8 r_4.1.length), (I 0)])), (upd (upd (fun _ => none) 0 (lstB z_5 3 (r_4.2.2.2.2.2.2.2.2.2.1.map e_THeard))) 1 (lstB z_4 8 (r_4.1.map e_TListener))), 2⟩, (.tup [(lstV z_5 0 3 r_4.2.2.2.2.2.2.2.2.2.1.length), (B r_4.2.2.2.2.2.2.2.2.2.2.2.2.2), (lstV z_4 1 8 r_4.1.length), (I 0)]), weak_canon2 [6, 5] [0, 1] (by decide) (by decide) (fun b h => absurd h (Nat.not_lt_zero _)) (.cons (by decide) (.cons (by decide) .nil)) (.cons rfl (avAs_tup (.cons (.c (lstC_ren rfl (by decide))) (.cons (avAs_free rfl) (.cons (.c (lstC_ren rfl (by decide))) (.cons (avAs_free rfl) .nil))))) .nil) (.row (by decide) rfl (fr_map fun _ => rfl) (.row (by decide) rfl (fr_map fun _ => rfl) .nil)), rfl, z_5, hz_5, z_4, hz_4, rfl, rfl, rfl⟩
def a22 : AFunc := ⟨3, [(.tmp 6)], (.seq (.region [⟨(some 6), (.mov (.const (.c (.val (.bool false))))), none⟩])
 (.seq (.region [⟨(some 7), (.mov (.tmp 1)), none⟩, ⟨(some 8), (.mov (.tmp 0)), none⟩, ⟨(some 9), (.bin .leq (.tmp 7) (.tmp 8)), none⟩, ⟨(some 10), (.mov (.tmp 9)), none⟩, ⟨(some 11), (.mov (.tmp 0)), (some (10, true))⟩, ⟨(some 12), (.mov (.tmp 2)), (some (10, true))⟩, ⟨(some 13), (.bin .leq (.tmp 11) (.tmp 12)), (some (10, true))⟩, ⟨(some 14), (.pick (.tmp 10) (.tmp 13) (.const (.c (.val (.bool false))))), none⟩, ⟨(some 6), (.mov (.tmp 14)), none⟩])
 .ret))⟩
set_option maxRecDepth 100000 in
theorem c22 : compFunc Tryd.prog 22 = some a22 := by kernel_rfl
def clerestoryref4_Between_post (r : Bool) : AV → Heap → Nat → Prop := fun v h' n' => v = (B r) ∧ (h' = (fun _ => none)) ∧ n' = 0
/-- clerestory/clerestoryref4.Between -/
def clerestoryref4_Between (n_ : Int) (low : Int) (high : Int) : Bool :=
  ((decide (low ≤ n_)) && (decide (n_ ≤ high)))
theorem clerestoryref4_Between_ok {mL : Int} (n_ : Int) (low : Int) (high : Int) : CPure Tryd.prog (GG mL) 22 [(I n_), (I low), (I high)] (B (clerestoryref4_Between n_ low high)) := by
  generalize h : clerestoryref4_Between n_ low high = o
  refine acalls_of_sv hmix c22 (R := clerestoryref4_Between_post o) ?_
  unfold clerestoryref4_Between at h
  refine Sv.seq ?_
  refine Sv.region ?_
  refine un (a1 rfl ?_)
  refine dnil ?_
  refine Sv.seq ?_
  refine Sv.region ?_
  refine un (a1 rfl ?_)
  refine un (a1 rfl ?_)
  refine un (a1 (v := (B (decide (low ≤ n_)))) rfl ?_)
  refine un (a1 rfl ?_)
  refine gjoin 4 (d := 14) (v := (B ((decide (low ≤ n_)) && (decide (n_ ≤ high))))) (fun X hX => ?_) ?_
  · refine split2 (fun hc1 => ?_) (fun hc1 => ?_)
    · refine gt rfl (a1 rfl ?_)
      refine gt rfl (a1 rfl ?_)
      refine gt rfl (a1 (v := (B (decide (n_ ≤ high)))) rfl ?_)
      refine un (a1 (v := (B (decide (n_ ≤ high)))) rfl ?_)
      refine dnil ?_
      exact hX _ (.putEq (by rw [hc1]; rfl) (.skip _ _ (.skip _ _ (.skip _ _ (.putEq (by rw [hc1]) (.refl _)) rfl) rfl) rfl))
    · refine gs rfl rfl ?_
      refine gs rfl rfl ?_
      refine gs rfl rfl ?_
      refine un (a1 (v := (B false)) rfl ?_)
      refine dnil ?_
      exact hX _ (.putEq (by rw [hc1]; rfl) (.skip _ _ (.skip _ _ (.skip _ _ (.putEq (by rw [hc1]) (.refl _)) rfl) rfl) rfl))
  refine un (a1 rfl ?_)
  refine dnil ?_
  refine Sv.ret ?_
  subst h
  exact ⟨_, .refl _, _, rfl, ⟨upd (fun _ => none) 0 (some (B ((decide (low ≤ n_)) && (decide (n_ ≤ high))))), (fun _ => none), 0⟩, (B ((decide (low ≤ n_)) && (decide (n_ ≤ high)))), weak_canon [] rfl List.nodup_nil (Nat.le_refl _) (fun b h => absurd h (Nat.not_lt_zero _)) (.cons rfl (avAs_free rfl) .nil) .nil, rfl, rfl, rfl, rfl⟩
def a34_c0 : ACode := (.seq (.region [⟨(some 9), (.bin .lss (.tmp 8) (.tmp 7)), none⟩])
 (.seq (.cond (.tmp 9) .skip (.exit 0))
 (.seq (.block 1 (.seq (.region [⟨(some 10), (.mov (.tmp 8)), none⟩, ⟨(some 5), (.mov (.tmp 10)), none⟩])
 (.seq (.region [⟨(some 11), (.mov (.tmp 1)), none⟩, ⟨(some 12), (.mov (.tmp 0)), none⟩, ⟨(some 13), (.mov (.tmp 5)), none⟩, ⟨(some 14), (.iaddr 1 (.tmp 12) (.tmp 13)), none⟩, ⟨(some 15), (.load false 1 (.tmp 14)), none⟩, ⟨(some 16), (.bin .eql (.tmp 11) (.tmp 15)), none⟩])
 (.cond (.tmp 16) (.seq (.region [⟨(some 17), (.mov (.tmp 5)), none⟩, ⟨(some 4), (.mov (.tmp 17)), none⟩])
 .ret) .skip))))
 (.region [⟨(some 18), (.bin .add (.tmp 8) (.const (.c (.val (.int .i64 1))))), none⟩, ⟨(some 8), (.mov (.tmp 18)), none⟩]))))
def a34 : AFunc := ⟨2, [(.tmp 4)], (.seq (.region [⟨(some 4), (.mov (.const (.c (.val (.int .i64 0))))), none⟩])
 (.seq (.seq (.region [⟨(some 6), (.mov (.tmp 0)), none⟩, ⟨(some 7), (.len (.tmp 6)), none⟩, ⟨(some 8), (.mov (.const (.c (.val (.int .i64 0))))), none⟩])
 (.block 0 (.loop a34_c0)))
 (.seq (.region [⟨(some 4), (.mov (.const (.c (.val (.int .i64 (-1)))))), none⟩])
 .ret)))⟩
set_option maxRecDepth 100000 in
theorem c34 : compFunc Tryd.prog 34 = some a34 := by kernel_rfl
def slices_Index_int_post (r : Int) : AV → Heap → Nat → Prop := fun v h' n' => v = (I r) ∧ (h' = (fun _ => none)) ∧ n' = 0
abbrev slices_Index_int_l0_E0 (F_ : Unit → Option Int) (o : Int) (R_ : St → Prop) : Prop := ∀ (_ : Unit), F_ () = some o → ∀ s, Weak 0 s ⟨(fun _ => none), (fun _ => none), 0⟩ → R_ s
abbrev slices_Index_int_l0_I (s_ : (List Int)) (v_ : Int) (F_ : Nat → Int → Option Int) (o : Int) : Nat → St → Prop := fun k s => ∃ (v8 : Int), F_ k v8 = some o ∧ s = ⟨(upd (upd (upd (upd (fun _ => none) 0 (some (.c (.ro false 1 (s_.map eI))))) 1 (some (I v_))) 7 (some (I (s_.length : Int)))) 8 (some (I v8))), (fun _ => none), 0⟩
abbrev slices_Index_int_l0_H (s_ : (List Int)) (v_ : Int) (F_ : Int → Option Int) (o : Int) (R_ : St → Prop) : Prop := ∀ (v8 : Int), F_ v8 = some o → ∀ s, Weak 0 s ⟨(upd (upd (upd (upd (fun _ => none) 0 (some (.c (.ro false 1 (s_.map eI))))) 1 (some (I v_))) 7 (some (I (s_.length : Int)))) 8 (some (I v8))), (fun _ => none), 0⟩ → R_ s
noncomputable def slices_Index_int_l0 (s_ : (List Int)) (v_ : Int) (K0_ : Unit → Option Int) : Nat → Int → Option Int
  | 0, _ => none
  | k + 1, v8 =>
    if decide (v8 < (s_.length : Int)) then
      (at? s_ v8).bind fun x_ =>
      if decide (v_ = x_) then
        some v8
      else
        (slices_Index_int_l0 s_ v_ K0_ k) (wi (v8 + 1))
    else
      K0_ ()
theorem slices_Index_int_l0_ok {mL : Int} {Q : AExit → St → Prop} {s_ : (List Int)} {v_ : Int} {K0_ : Unit → Option Int} {k : Nat} {v8 : Int} {o : Int} (h : slices_Index_int_l0 s_ v_ K0_ k v8 = some o)
    (hK0 : slices_Index_int_l0_E0 K0_ o (Q (.exit 0)))
    (hr : ∀ s, Ends a34.results 0 (slices_Index_int_post o) .ret s → Q .ret s) :
    Sv Tryd.prog (GG mL) 0 (.loop a34_c0) Q ⟨(upd (upd (upd (upd (fun _ => none) 0 (some (.c (.ro false 1 (s_.map eI))))) 1 (some (I v_))) 7 (some (I (s_.length : Int)))) 8 (some (I v8))), (fun _ => none), 0⟩ := by
  refine Sv.loop (I := slices_Index_int_l0_I s_ v_ (slices_Index_int_l0 s_ v_ K0_) o) (fun k s hI => ?_) ⟨v8, h, rfl⟩
  clear h
  clear v8
  obtain ⟨v8, h, rfl⟩ := hI
  cases k with
  | zero => cases h
  | succ k =>
  rw [slices_Index_int_l0] at h
  have hself : slices_Index_int_l0_H s_ v_ (slices_Index_int_l0 s_ v_ K0_ k) o (rnd 0 (slices_Index_int_l0_I s_ v_ (slices_Index_int_l0 s_ v_ K0_) o) k Q) := fun v8 h s hw => ⟨_, k, hw, Nat.lt_succ_self k, v8, h, rfl⟩
  refine Sv.seq ?_
  refine Sv.region ?_
  refine un (a1 (v := (B (decide (v8 < (s_.length : Int))))) rfl ?_)
  refine dnil ?_
  refine Sv.seq ?_
  refine Sv.cond (b := decide (v8 < (s_.length : Int))) rfl (fun hc1 => ?_) (fun hc1 => ?_)
  · replace h := ifT hc1 h
    refine Sv.skip ?_
    refine Sv.seq ?_
    refine Sv.block ?_
    refine Sv.seq ?_
    refine Sv.region ?_
    refine un (a1 rfl ?_)
    refine un (a1 rfl ?_)
    refine dnil ?_
    refine Sv.seq ?_
    refine Sv.region ?_
    refine un (a1 rfl ?_)
    refine un (a1 rfl ?_)
    refine un (a1 rfl ?_)
    obtain ⟨x_, hx1, h⟩ := bnd h
    refine un (a1 (v := (.c (.rop [cI x_]))) (s_iaddr (e := eI) (xs := s_) rfl rfl hx1) ?_)
    refine un (a1 (v := (I x_)) rfl ?_)
    refine un (a1 (v := (B (decide (v_ = x_)))) rfl ?_)
    refine dnil ?_
    refine Sv.cond (b := decide (v_ = x_)) rfl (fun hc2 => ?_) (fun hc2 => ?_)
    · replace h := ifT hc2 h
      refine Sv.seq ?_
      refine Sv.region ?_
      refine un (a1 rfl ?_)
      refine un (a1 rfl ?_)
      refine dnil ?_
      refine Sv.ret ?_
      replace h := Option.some.inj h
      subst h
      exact hr _ ⟨_, .refl _, _, rfl, ⟨upd (fun _ => none) 0 (some (I v8)), (fun _ => none), 0⟩, (I v8), weak_canon [] rfl List.nodup_nil (Nat.le_refl _) (fun b h => absurd h (Nat.not_lt_zero _)) (.cons rfl (avAs_free rfl) .nil) .nil, rfl, rfl, rfl, rfl⟩
    · replace h := ifF hc2 h
      refine Sv.skip ?_
      refine Sv.region ?_
      refine un (a1 (v := (I (wi (v8 + 1)))) rfl ?_)
      refine un (a1 rfl ?_)
      refine dnil ?_
      exact hself (wi (v8 + 1)) h _ (weak_canon [] rfl (by decide) (by decide) (fun b h => absurd h (Nat.not_lt_zero _)) (.cons rfl (avAs_free rfl) (.cons rfl (avAs_free rfl) (.cons rfl (avAs_free rfl) (.cons rfl (avAs_free rfl) .nil)))) .nil)
  · replace h := ifF hc1 h
    refine Sv.exit ?_
    exact hK0 () h _ (weak_canon [] rfl (by decide) (by decide) (fun b h => absurd h (Nat.not_lt_zero _)) .nil .nil)
/-- slices.Index(()int,int) -/
noncomputable def slices_Index_int (s_ : (List Int)) (v_ : Int) : Option Int :=
  lim fun kk => slices_Index_int_l0 s_ v_ (fun (_ : Unit) => 
      some (-1)) kk 0
theorem slices_Index_int_ok {mL : Int} {s_ : (List Int)} {v_ : Int} {r : Int} (h : slices_Index_int s_ v_ = some r) : CPure Tryd.prog (GG mL) 34 [(.c (.ro false 1 (s_.map eI))), (I v_)] (I r) := by
  refine acalls_of_sv hmix c34 (R := slices_Index_int_post r) ?_
  unfold slices_Index_int at h
  refine Sv.seq ?_
  refine Sv.region ?_
  refine un (a1 rfl ?_)
  refine dnil ?_
  refine Sv.seq ?_
  refine Sv.seq ?_
  refine Sv.region ?_
  refine un (a1 rfl ?_)
  refine un (a1 (v := (I (s_.length : Int))) (s_len (e := eI) (xs := s_) rfl) ?_)
  refine un (a1 rfl ?_)
  refine dnil ?_
  refine Sv.block ?_
  obtain ⟨kk, h⟩ := lim_some h
  refine Sv.weak (weak_canon [] rfl (by decide) (by decide) (fun b h => absurd h (Nat.not_lt_zero _)) (.cons rfl (avAs_free rfl) (.cons rfl (avAs_free rfl) (.cons rfl (avAs_free rfl) (.cons rfl (avAs_free rfl) .nil)))) .nil) (slices_Index_int_l0_ok h ?_ (fun s hs => hs))
  · intro _ h _ hw1
    refine Sv.weak hw1 ?_
    refine Sv.seq ?_
    refine Sv.region ?_
    refine un (a1 rfl ?_)
    refine dnil ?_
    refine Sv.ret ?_
    replace h := Option.some.inj h
    subst h
    exact ⟨_, .refl _, _, rfl, ⟨upd (fun _ => none) 0 (some (I (-1))), (fun _ => none), 0⟩, (I (-1)), weak_canon [] rfl List.nodup_nil (Nat.le_refl _) (fun b h => absurd h (Nat.not_lt_zero _)) (.cons rfl (avAs_free rfl) .nil) .nil, rfl, rfl, rfl, rfl⟩
def a23 : AFunc := ⟨2, [(.tmp 4)], (.seq (.region [⟨(some 4), (.mov (.const (.c (.val (.bool false))))), none⟩])
 (.seq (.region [⟨(some 5), (.mov (.tmp 0)), none⟩, ⟨(some 6), (.mov (.tmp 1)), none⟩, ⟨(some 7), (.call 34 [(.tmp 5), (.tmp 6)]), none⟩, ⟨(some 8), (.bin .geq (.tmp 7) (.const (.c (.val (.int .i64 0))))), none⟩, ⟨(some 4), (.mov (.tmp 8)), none⟩])
 .ret))⟩
set_option maxRecDepth 100000 in
theorem c23 : compFunc Tryd.prog 23 = some a23 := by kernel_rfl
def slices_Contains_int_post (r : Bool) : AV → Heap → Nat → Prop := fun v h' n' => v = (B r) ∧ (h' = (fun _ => none)) ∧ n' = 0
/-- slices.Contains(()int,int) -/
noncomputable def slices_Contains_int (s_ : (List Int)) (v_ : Int) : Option Bool :=
  (slices_Index_int s_ v_).bind fun r_ =>
  some (decide (0 ≤ r_))
theorem slices_Contains_int_ok {mL : Int} {s_ : (List Int)} {v_ : Int} {r : Bool} (h : slices_Contains_int s_ v_ = some r) : CPure Tryd.prog (GG mL) 23 [(.c (.ro false 1 (s_.map eI))), (I v_)] (B r) := by
  refine acalls_of_sv hmix c23 (R := slices_Contains_int_post r) ?_
  unfold slices_Contains_int at h
  refine Sv.seq ?_
  refine Sv.region ?_
  refine un (a1 rfl ?_)
  refine dnil ?_
  refine Sv.seq ?_
  refine Sv.region ?_
  refine un (a1 rfl ?_)
  refine un (a1 rfl ?_)
  obtain ⟨r_, hr1, h⟩ := bnd h
  refine un (ac_pure (slices_Index_int_ok hr1) rfl rfl rfl ?_)
  refine un (a1 (v := (B (decide (0 ≤ r_)))) rfl ?_)
  refine un (a1 rfl ?_)
  refine dnil ?_
  refine Sv.ret ?_
  replace h := Option.some.inj h
  subst h
  exact ⟨_, .refl _, _, rfl, ⟨upd (fun _ => none) 0 (some (B (decide (0 ≤ r_)))), (fun _ => none), 0⟩, (B (decide (0 ≤ r_))), weak_canon [] rfl List.nodup_nil (Nat.le_refl _) (fun b h => absurd h (Nat.not_lt_zero _)) (.cons rfl (avAs_free rfl) .nil) .nil, rfl, rfl, rfl, rfl⟩
end Go.Proofs.YtoomjemboekooaaDoorBv
