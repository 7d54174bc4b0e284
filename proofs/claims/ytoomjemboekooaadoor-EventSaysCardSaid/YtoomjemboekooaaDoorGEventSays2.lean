/- Printed by a program of mine (bgen.py): plain functions, and the walks that show that the code comes to what they answer. -/
import Derived.Test.YtoomjemboekooaaDoorGEventSays1
namespace Go.Proofs.YtoomjemboekooaaDoorBv
open Go
set_option linter.unusedVariables false
set_option linter.unusedSimpArgs false
set_option maxRecDepth 100000
def a7_c0 : ACode := (.region [⟨(some 44), (.bin .add (.tmp 32) (.const (.c (.val (.int .i64 1))))), none⟩, ⟨(some 32), (.mov (.tmp 44)), none⟩])
def a7_c1 : ACode := (.seq (.region [⟨(some 33), (.bin .lss (.tmp 32) (.tmp 31)), none⟩])
 (.seq (.cond (.tmp 33) .skip (.exit 2))
 (.seq (.block 3 (.seq (.region [⟨(some 34), (.mov (.tmp 32)), none⟩, ⟨(some 35), (.iaddr 6 (.tmp 30) (.tmp 32)), none⟩, ⟨(some 36), (.load true 6 (.tmp 35)), none⟩, ⟨(some 10), (.box (.const (.agg [(.val (.int .i64 0)), (.str []), (.ro true 2 []), (.str []), (.val (.int .i64 0)), (.ro true 1 [])]))), none⟩, ⟨(some 9), (.mov (.tmp 34)), none⟩, ⟨none, (.store 6 (.tmp 10) (.tmp 36)), none⟩])
 (.seq (.drawn (.fin [(⟨(some 37), (.faddr 5 (.tmp 10)), none⟩, (0, 0)), (⟨(some 38), (.load false 1 (.tmp 37)), none⟩, (0, 1)), (⟨(some 39), (.mov (.tmp 7)), none⟩, (0, 2)), (⟨(some 40), (.iaddr 1 (.tmp 39) (.const (.c (.val (.int .i64 0))))), none⟩, (0, 3)), (⟨(some 41), (.load false 1 (.tmp 40)), none⟩, (0, 4)), (⟨(some 42), (.call 23 [(.tmp 38), (.tmp 41)]), none⟩, (2, 5))]))
 (.cond (.tmp 42) (.region [⟨(some 43), (.mov (.tmp 9)), none⟩, ⟨(some 8), (.mov (.tmp 43)), none⟩]) .skip))))
 a7_c0)))
def a7_c2 : ACode := (.seq (.seq (.region [⟨(some 25), (.mov (.tmp 7)), none⟩, ⟨(some 26), (.iaddr 1 (.tmp 25) (.const (.c (.val (.int .i64 0))))), none⟩, ⟨(some 27), (.load false 1 (.tmp 26)), none⟩, ⟨(some 28), (.bin .neq (.tmp 27) (.const (.c (.val (.int .i64 0))))), none⟩])
 (.cond (.tmp 28) .skip (.exit 0)))
 (.block 1 (.seq (.region [⟨(some 8), (.mov (.const (.c (.val (.int .i64 (-1)))))), none⟩])
 (.seq (.seq (.region [⟨(some 29), (.faddr 0 (.tmp 2)), none⟩, ⟨(some 30), (.load false 1 (.tmp 29)), none⟩, ⟨(some 31), (.len (.tmp 30)), none⟩, ⟨(some 32), (.mov (.const (.c (.val (.int .i64 0))))), none⟩])
 (.block 2 (.loop a7_c1)))
 (.seq (.seq (.region [⟨(some 45), (.mov (.tmp 8)), none⟩, ⟨(some 46), (.bin .lss (.tmp 45) (.const (.c (.val (.int .i64 0))))), none⟩])
 (.cond (.tmp 46) (.seq (.region [⟨(some 4), (.mov (.const (.c (.ro true 1 [])))), none⟩, ⟨(some 5), (.mov (.const (.c (.val (.int .i64 5))))), none⟩])
 .ret) .skip))
 (.region [⟨(some 47), (.mov (.tmp 8)), none⟩, ⟨(some 48), (.bslice 1 [(.val (.int .i64 0))] 1 [(0, (.tmp 47))]), none⟩, ⟨(some 49), (.mov (.tmp 7)), none⟩, ⟨(some 50), (.app 1 8 (.tmp 48) (.tmp 49)), none⟩, ⟨(some 7), (.mov (.tmp 50)), none⟩]))))))
def a7 : AFunc := ⟨2, [(.tmp 4), (.tmp 5)], (.seq (.region [⟨(some 2), (.box (.tmp 0)), none⟩, ⟨(some 4), (.mov (.const (.c (.ro true 1 [])))), none⟩, ⟨(some 5), (.mov (.const (.c (.val (.int .i64 0))))), none⟩])
 (.seq (.seq (.region [⟨(some 11), (.load true 2 (.tmp 2)), none⟩, ⟨(some 12), (.call 14 [(.tmp 11)]), none⟩, ⟨(some 6), (.mov (.tmp 12)), none⟩])
 (.seq (.region [⟨(some 13), (.mov (.tmp 6)), none⟩, ⟨(some 14), (.bin .neq (.tmp 13) (.const (.c (.val (.int .i64 0))))), none⟩])
 (.cond (.tmp 14) (.seq (.region [⟨(some 15), (.mov (.tmp 6)), none⟩, ⟨(some 4), (.mov (.const (.c (.ro true 1 [])))), none⟩, ⟨(some 5), (.mov (.tmp 15)), none⟩])
 .ret) .skip)))
 (.seq (.seq (.region [⟨(some 16), (.mov (.tmp 1)), none⟩, ⟨(some 17), (.faddr 0 (.tmp 2)), none⟩, ⟨(some 18), (.load false 1 (.tmp 17)), none⟩, ⟨(some 19), (.len (.tmp 18)), none⟩, ⟨(some 20), (.bin .sub (.tmp 19) (.const (.c (.val (.int .i64 1))))), none⟩, ⟨(some 21), (.call 22 [(.tmp 16), (.const (.c (.val (.int .i64 0)))), (.tmp 20)]), none⟩, ⟨(some 22), (.un .not (.tmp 21)), none⟩])
 (.cond (.tmp 22) (.seq (.region [⟨(some 4), (.mov (.const (.c (.ro true 1 [])))), none⟩, ⟨(some 5), (.mov (.const (.c (.val (.int .i64 1))))), none⟩])
 .ret) .skip))
 (.seq (.region [⟨(some 23), (.mov (.tmp 1)), none⟩, ⟨(some 24), (.bslice 1 [(.val (.int .i64 0))] 1 [(0, (.tmp 23))]), none⟩, ⟨(some 7), (.mov (.tmp 24)), none⟩])
 (.seq (.block 0 (.loop a7_c2))
 (.seq (.region [⟨(some 51), (.mov (.tmp 7)), none⟩, ⟨(some 4), (.mov (.tmp 51)), none⟩, ⟨(some 5), (.mov (.const (.c (.val (.int .i64 0))))), none⟩])
 .ret))))))⟩
set_option maxRecDepth 100000 in
theorem c7 : compFunc Tryd.prog 7 = some a7 := by kernel_rfl
def clerestoryref4_WayTo_post (r : ((List Int) × Int)) : AV → Heap → Nat → Prop := fun v h' n' => ∃ z0 : Bool, (z0 = true → r.1 = []) ∧ v = (.tup [(lstV z0 0 1 r.1.length), (I r.2)]) ∧ (h' = (upd (fun _ => none) 0 (lstB z0 1 (r.1.map eI)))) ∧ n' = 1
abbrev clerestoryref4_WayTo_l3_H (d_ : TDoc) (F_ : (List Int) → Int → Int → Option ((List Int) × Int)) (o : ((List Int) × Int)) (R_ : St → Prop) : Prop := ∀ (out2 : (List Int)) (up : Int) (v32 : Int) (zout2 : Bool) (_ : zout2 = true → out2 = []), F_ out2 up v32 = some o → ∀ s, Weak 0 s ⟨(upd (upd (upd (upd (upd (upd (fun _ => none) 2 (some (.c (.ref 0 2 0 0)))) 7 (some (lstV zout2 1 1 out2.length))) 8 (some (I up))) 30 (some (.c (.ro false 6 (d_.Nodes.map e_TNode))))) 31 (some (I (d_.Nodes.length : Int)))) 32 (some (I v32))), (upd (upd (fun _ => none) 0 (some (.cells 2 [[.ro false 6 (d_.Nodes.map e_TNode), cB d_.Quirks]]))) 1 (lstB zout2 1 (out2.map eI))), 2⟩ → R_ s
abbrev clerestoryref4_WayTo_l3_E2 (d_ : TDoc) (F_ : (List Int) → Int → Option ((List Int) × Int)) (o : ((List Int) × Int)) (R_ : St → Prop) : Prop := ∀ (out3 : (List Int)) (up1 : Int) (zout3 : Bool) (_ : zout3 = true → out3 = []), F_ out3 up1 = some o → ∀ s, Weak 0 s ⟨(upd (upd (upd (fun _ => none) 2 (some (.c (.ref 0 2 0 0)))) 7 (some (lstV zout3 1 1 out3.length))) 8 (some (I up1))), (upd (upd (fun _ => none) 0 (some (.cells 2 [[.ro false 6 (d_.Nodes.map e_TNode), cB d_.Quirks]]))) 1 (lstB zout3 1 (out3.map eI))), 2⟩ → R_ s
noncomputable def clerestoryref4_WayTo_j9 (v32 : Int) (d_ : TDoc) (self : (List Int) → Int → Int → Option ((List Int) × Int)) (K2_ : (List Int) → Int → Option ((List Int) × Int)) (out4 : (List Int)) (up2 : Int) : Option ((List Int) × Int) :=
  self out4 up2 (wi (v32 + 1))
theorem clerestoryref4_WayTo_j9_ok {mL : Int} {Q : AExit → St → Prop} {v32 : Int} {d_ : TDoc} {self : (List Int) → Int → Int → Option ((List Int) × Int)} {K2_ : (List Int) → Int → Option ((List Int) × Int)} {out4 : (List Int)} {up2 : Int} {zout4 : Bool} (hzout4 : zout4 = true → out4 = []) {o : ((List Int) × Int)} (h : clerestoryref4_WayTo_j9 v32 d_ self K2_ out4 up2 = some o)
    (hself : clerestoryref4_WayTo_l3_H d_ self o (Q .normal))
    (hK2 : clerestoryref4_WayTo_l3_E2 d_ K2_ o (Q (.exit 2)))
    (hr : ∀ s, Ends a7.results 0 (clerestoryref4_WayTo_post o) .ret s → Q .ret s) :
    Sv Tryd.prog (GG mL) 0 a7_c0 Q ⟨(upd (upd (upd (upd (upd (upd (fun _ => none) 2 (some (.c (.ref 0 2 0 0)))) 7 (some (lstV zout4 1 1 out4.length))) 8 (some (I up2))) 30 (some (.c (.ro false 6 (d_.Nodes.map e_TNode))))) 31 (some (I (d_.Nodes.length : Int)))) 32 (some (I v32))), (upd (upd (fun _ => none) 0 (some (.cells 2 [[.ro false 6 (d_.Nodes.map e_TNode), cB d_.Quirks]]))) 1 (lstB zout4 1 (out4.map eI))), 2⟩ := by
  unfold clerestoryref4_WayTo_j9 at h
  refine Sv.region ?_
  refine un (a1 (v := (I (wi (v32 + 1)))) rfl ?_)
  refine un (a1 rfl ?_)
  refine dnil ?_
  exact hself out4 up2 (wi (v32 + 1)) zout4 hzout4 h _ (weak_canon [0, 1] rfl (by decide) (by decide) (fun b h => absurd h (Nat.not_lt_zero _)) (.cons rfl (avAs_free rfl) (.cons rfl (avAs_free rfl) (.cons rfl (avAs_free rfl) (.cons rfl (avAs_free rfl) (.cons rfl (.c (lstC_ren rfl (by decide))) (.cons rfl (.c (.ref rfl (by decide))) .nil)))))) (.row (by decide) rfl (fr_map fun _ => rfl) (.box (by decide) rfl (blkAs_cells (.cons (.same rfl) (.cons (.same rfl) .nil))) .nil)))
abbrev clerestoryref4_WayTo_l3_I (d_ : TDoc) (F_ : Nat → (List Int) → Int → Int → Option ((List Int) × Int)) (o : ((List Int) × Int)) : Nat → St → Prop := fun k s => ∃ (out2 : (List Int)), ∃ (up : Int), ∃ (v32 : Int), ∃ (zout2 : Bool), (zout2 = true → out2 = []) ∧ F_ k out2 up v32 = some o ∧ s = ⟨(upd (upd (upd (upd (upd (upd (fun _ => none) 2 (some (.c (.ref 0 2 0 0)))) 7 (some (lstV zout2 1 1 out2.length))) 8 (some (I up))) 30 (some (.c (.ro false 6 (d_.Nodes.map e_TNode))))) 31 (some (I (d_.Nodes.length : Int)))) 32 (some (I v32))), (upd (upd (fun _ => none) 0 (some (.cells 2 [[.ro false 6 (d_.Nodes.map e_TNode), cB d_.Quirks]]))) 1 (lstB zout2 1 (out2.map eI))), 2⟩
noncomputable def clerestoryref4_WayTo_l3 (d_ : TDoc) (K2_ : (List Int) → Int → Option ((List Int) × Int)) : Nat → (List Int) → Int → Int → Option ((List Int) × Int)
  | 0, _, _, _ => none
  | k + 1, out2, up, v32 =>
    if decide (v32 < (d_.Nodes.length : Int)) then
      (at? d_.Nodes v32).bind fun x_1 =>
      (at? out2 0).bind fun x_2 =>
      (slices_Contains_int x_1.Kids x_2).bind fun r_1 =>
      if r_1 then
        clerestoryref4_WayTo_j9 v32 d_ (clerestoryref4_WayTo_l3 d_ K2_ k) K2_ out2 v32
      else
        clerestoryref4_WayTo_j9 v32 d_ (clerestoryref4_WayTo_l3 d_ K2_ k) K2_ out2 up
    else
      K2_ out2 up
theorem clerestoryref4_WayTo_l3_ok {mL : Int} {Q : AExit → St → Prop} {d_ : TDoc} {K2_ : (List Int) → Int → Option ((List Int) × Int)} {k : Nat} {out2 : (List Int)} {up : Int} {v32 : Int} {zout2 : Bool} (hzout2 : zout2 = true → out2 = []) {o : ((List Int) × Int)} (h : clerestoryref4_WayTo_l3 d_ K2_ k out2 up v32 = some o)
    (hK2 : clerestoryref4_WayTo_l3_E2 d_ K2_ o (Q (.exit 2)))
    (hr : ∀ s, Ends a7.results 0 (clerestoryref4_WayTo_post o) .ret s → Q .ret s) :
    Sv Tryd.prog (GG mL) 0 (.loop a7_c1) Q ⟨(upd (upd (upd (upd (upd (upd (fun _ => none) 2 (some (.c (.ref 0 2 0 0)))) 7 (some (lstV zout2 1 1 out2.length))) 8 (some (I up))) 30 (some (.c (.ro false 6 (d_.Nodes.map e_TNode))))) 31 (some (I (d_.Nodes.length : Int)))) 32 (some (I v32))), (upd (upd (fun _ => none) 0 (some (.cells 2 [[.ro false 6 (d_.Nodes.map e_TNode), cB d_.Quirks]]))) 1 (lstB zout2 1 (out2.map eI))), 2⟩ := by
  refine Sv.loop (I := clerestoryref4_WayTo_l3_I d_ (clerestoryref4_WayTo_l3 d_ K2_) o) (fun k s hI => ?_) ⟨out2, up, v32, zout2, hzout2, h, rfl⟩
  clear h
  clear hzout2 zout2 v32 up out2
  obtain ⟨out2, up, v32, zout2, hzout2, h, rfl⟩ := hI
  cases k with
  | zero => cases h
  | succ k =>
  rw [clerestoryref4_WayTo_l3] at h
  have hself : clerestoryref4_WayTo_l3_H d_ (clerestoryref4_WayTo_l3 d_ K2_ k) o (rnd 0 (clerestoryref4_WayTo_l3_I d_ (clerestoryref4_WayTo_l3 d_ K2_) o) k Q) := fun out2 up v32 zout2 hzout2 h s hw => ⟨_, k, hw, Nat.lt_succ_self k, out2, up, v32, zout2, hzout2, h, rfl⟩
  refine Sv.seq ?_
  refine Sv.region ?_
  refine un (a1 (v := (B (decide (v32 < (d_.Nodes.length : Int))))) rfl ?_)
  refine dnil ?_
  refine Sv.seq ?_
  refine Sv.cond (b := decide (v32 < (d_.Nodes.length : Int))) rfl (fun hc4 => ?_) (fun hc4 => ?_)
  · replace h := ifT hc4 h
    refine Sv.skip ?_
    refine Sv.seq ?_
    refine Sv.block ?_
    refine Sv.seq ?_
    refine Sv.region ?_
    refine un (a1 rfl ?_)
    obtain ⟨x_1, hx2, h⟩ := bnd h
    refine un (a1 (v := (.c (.rop [cI x_1.Kind, .str x_1.Name, .ro false 2 (x_1.Attrs.map e_TAttr), .str x_1.Text, cI x_1.Parent, .ro false 1 (x_1.Kids.map eI)]))) (s_iaddr (e := e_TNode) (xs := d_.Nodes) rfl rfl hx2) ?_)
    refine un (a1 (v := (.agg [cI x_1.Kind, .str x_1.Name, .ro false 2 (x_1.Attrs.map e_TAttr), .str x_1.Text, cI x_1.Parent, .ro false 1 (x_1.Kids.map eI)])) rfl ?_)
    refine un (a2v (v := (.c (.ref 2 6 0 0))) (h' := upd _ 2 (some (.cells 6 [[cI 0, .str [], .ro true 2 [], .str [], cI 0, .ro true 1 []]]))) (n' := 3) rfl rfl (fun h => by cases h) ?_)
    refine un (a1 rfl ?_)
    refine un (a2n (h' := upd _ 2 (some (.cells 6 [[cI x_1.Kind, .str x_1.Name, .ro false 2 (x_1.Attrs.map e_TAttr), .str x_1.Text, cI x_1.Parent, .ro false 1 (x_1.Kids.map eI)]]))) (n' := 3) rfl rfl (fun h => by cases h) ?_)
    refine dnil ?_
    refine Sv.seq ?_
    refine Sv.drawn ?_
    refine un (a1 (v := (.c (.ref 2 6 0 5))) rfl ?_)
    refine un (a1 (v := (.c (.ro false 1 (x_1.Kids.map eI)))) rfl ?_)
    refine un (a1 rfl ?_)
    obtain ⟨x_2, hx3, h⟩ := bnd h
    refine un (a1 (v := (.c (.ref 1 1 (0 : Int).toNat 0))) (s_iaddrL rfl rfl hzout2 hx3) ?_)
    refine un (a1 (v := (I x_2)) (s_loadL (z := zout2) (e := eI) rfl rfl hzout2 hx3 rfl rfl) ?_)
    obtain ⟨r_1, hr2, h⟩ := bnd h
    refine un (ac_pure (slices_Contains_int_ok hr2) rfl rfl rfl ?_)
    refine dnil ?_
    refine Sv.cond (b := r_1) rfl (fun hc5 => ?_) (fun hc5 => ?_)
    · replace h := ifT hc5 h
      refine Sv.region ?_
      refine un (a1 rfl ?_)
      refine un (a1 rfl ?_)
      refine dnil ?_
      exact Sv.weak (weak_canon [0, 1] rfl (by decide) (by decide) (fun b h => absurd h (Nat.not_lt_zero _)) (.cons rfl (avAs_free rfl) (.cons rfl (avAs_free rfl) (.cons rfl (avAs_free rfl) (.cons rfl (avAs_free rfl) (.cons rfl (.c (lstC_ren rfl (by decide))) (.cons rfl (.c (.ref rfl (by decide))) .nil)))))) (.row (by decide) rfl (fr_map fun _ => rfl) (.box (by decide) rfl (blkAs_cells (.cons (.same rfl) (.cons (.same rfl) .nil))) .nil))) (clerestoryref4_WayTo_j9_ok hzout2 h hself hK2 hr)
    · replace h := ifF hc5 h
      refine Sv.skip ?_
      exact Sv.weak (weak_canon [0, 1] rfl (by decide) (by decide) (fun b h => absurd h (Nat.not_lt_zero _)) (.cons rfl (avAs_free rfl) (.cons rfl (avAs_free rfl) (.cons rfl (avAs_free rfl) (.cons rfl (avAs_free rfl) (.cons rfl (.c (lstC_ren rfl (by decide))) (.cons rfl (.c (.ref rfl (by decide))) .nil)))))) (.row (by decide) rfl (fr_map fun _ => rfl) (.box (by decide) rfl (blkAs_cells (.cons (.same rfl) (.cons (.same rfl) .nil))) .nil))) (clerestoryref4_WayTo_j9_ok hzout2 h hself hK2 hr)
  · replace h := ifF hc4 h
    refine Sv.exit ?_
    exact hK2 out2 up zout2 hzout2 h _ (weak_canon [0, 1] rfl (by decide) (by decide) (fun b h => absurd h (Nat.not_lt_zero _)) (.cons rfl (avAs_free rfl) (.cons rfl (.c (lstC_ren rfl (by decide))) (.cons rfl (.c (.ref rfl (by decide))) .nil))) (.row (by decide) rfl (fr_map fun _ => rfl) (.box (by decide) rfl (blkAs_cells (.cons (.same rfl) (.cons (.same rfl) .nil))) .nil)))
abbrev clerestoryref4_WayTo_l2_E0 (F_ : (List Int) → Option ((List Int) × Int)) (o : ((List Int) × Int)) (R_ : St → Prop) : Prop := ∀ (out1 : (List Int)) (zout1 : Bool) (_ : zout1 = true → out1 = []), F_ out1 = some o → ∀ s, Weak 0 s ⟨(upd (fun _ => none) 7 (some (lstV zout1 0 1 out1.length))), (upd (fun _ => none) 0 (lstB zout1 1 (out1.map eI))), 1⟩ → R_ s
abbrev clerestoryref4_WayTo_l2_I (d_ : TDoc) (F_ : Nat → (List Int) → Option ((List Int) × Int)) (o : ((List Int) × Int)) : Nat → St → Prop := fun k s => ∃ (out : (List Int)), ∃ (zout : Bool), (zout = true → out = []) ∧ F_ k out = some o ∧ s = ⟨(upd (upd (fun _ => none) 2 (some (.c (.ref 0 2 0 0)))) 7 (some (lstV zout 1 1 out.length))), (upd (upd (fun _ => none) 0 (some (.cells 2 [[.ro false 6 (d_.Nodes.map e_TNode), cB d_.Quirks]]))) 1 (lstB zout 1 (out.map eI))), 2⟩
abbrev clerestoryref4_WayTo_l2_H (d_ : TDoc) (F_ : (List Int) → Option ((List Int) × Int)) (o : ((List Int) × Int)) (R_ : St → Prop) : Prop := ∀ (out : (List Int)) (zout : Bool) (_ : zout = true → out = []), F_ out = some o → ∀ s, Weak 0 s ⟨(upd (upd (fun _ => none) 2 (some (.c (.ref 0 2 0 0)))) 7 (some (lstV zout 1 1 out.length))), (upd (upd (fun _ => none) 0 (some (.cells 2 [[.ro false 6 (d_.Nodes.map e_TNode), cB d_.Quirks]]))) 1 (lstB zout 1 (out.map eI))), 2⟩ → R_ s
noncomputable def clerestoryref4_WayTo_l2 (d_ : TDoc) (K0_ : (List Int) → Option ((List Int) × Int)) : Nat → (List Int) → Option ((List Int) × Int)
  | 0, _ => none
  | k + 1, out =>
    (at? out 0).bind fun x_ =>
    if (!decide (x_ = 0)) then
      lim fun kk => clerestoryref4_WayTo_l3 d_ (fun (out3 : (List Int)) (up1 : Int) => 
          if decide (up1 < 0) then
            some (([] : List Int), 5)
          else
            (app? 8 [up1] out3).bind fun r_2 =>
            (clerestoryref4_WayTo_l2 d_ K0_ k) r_2) kk out (-1) 0
    else
      K0_ out
theorem clerestoryref4_WayTo_l2_ok {mL : Int} {Q : AExit → St → Prop} {d_ : TDoc} {K0_ : (List Int) → Option ((List Int) × Int)} {k : Nat} {out : (List Int)} {zout : Bool} (hzout : zout = true → out = []) {o : ((List Int) × Int)} (h : clerestoryref4_WayTo_l2 d_ K0_ k out = some o)
    (hK0 : clerestoryref4_WayTo_l2_E0 K0_ o (Q (.exit 0)))
    (hr : ∀ s, Ends a7.results 0 (clerestoryref4_WayTo_post o) .ret s → Q .ret s) :
    Sv Tryd.prog (GG mL) 0 (.loop a7_c2) Q ⟨(upd (upd (fun _ => none) 2 (some (.c (.ref 0 2 0 0)))) 7 (some (lstV zout 1 1 out.length))), (upd (upd (fun _ => none) 0 (some (.cells 2 [[.ro false 6 (d_.Nodes.map e_TNode), cB d_.Quirks]]))) 1 (lstB zout 1 (out.map eI))), 2⟩ := by
  refine Sv.loop (I := clerestoryref4_WayTo_l2_I d_ (clerestoryref4_WayTo_l2 d_ K0_) o) (fun k s hI => ?_) ⟨out, zout, hzout, h, rfl⟩
  clear h
  clear hzout zout out
  obtain ⟨out, zout, hzout, h, rfl⟩ := hI
  cases k with
  | zero => cases h
  | succ k =>
  rw [clerestoryref4_WayTo_l2] at h
  have hself : clerestoryref4_WayTo_l2_H d_ (clerestoryref4_WayTo_l2 d_ K0_ k) o (rnd 0 (clerestoryref4_WayTo_l2_I d_ (clerestoryref4_WayTo_l2 d_ K0_) o) k Q) := fun out zout hzout h s hw => ⟨_, k, hw, Nat.lt_succ_self k, out, zout, hzout, h, rfl⟩
  refine Sv.seq ?_
  refine Sv.seq ?_
  refine Sv.region ?_
  refine un (a1 rfl ?_)
  obtain ⟨x_, hx1, h⟩ := bnd h
  refine un (a1 (v := (.c (.ref 1 1 (0 : Int).toNat 0))) (s_iaddrL rfl rfl hzout hx1) ?_)
  refine un (a1 (v := (I x_)) (s_loadL (z := zout) (e := eI) rfl rfl hzout hx1 rfl rfl) ?_)
  refine un (a1 (v := (B (!decide (x_ = 0)))) rfl ?_)
  refine dnil ?_
  refine Sv.cond (b := (!decide (x_ = 0))) rfl (fun hc3 => ?_) (fun hc3 => ?_)
  · replace h := ifT hc3 h
    refine Sv.skip ?_
    refine Sv.block ?_
    refine Sv.seq ?_
    refine Sv.region ?_
    refine un (a1 rfl ?_)
    refine dnil ?_
    refine Sv.seq ?_
    refine Sv.seq ?_
    refine Sv.region ?_
    refine un (a1 (v := (.c (.ref 0 2 0 0))) rfl ?_)
    refine un (a1 (v := (.c (.ro false 6 (d_.Nodes.map e_TNode)))) rfl ?_)
    refine un (a1 (v := (I (d_.Nodes.length : Int))) (s_len (e := e_TNode) (xs := d_.Nodes) rfl) ?_)
    refine un (a1 rfl ?_)
    refine dnil ?_
    refine Sv.block ?_
    obtain ⟨kk, h⟩ := lim_some h
    refine Sv.weak (weak_canon [0, 1] rfl (by decide) (by decide) (fun b h => absurd h (Nat.not_lt_zero _)) (.cons rfl (avAs_free rfl) (.cons rfl (avAs_free rfl) (.cons rfl (avAs_free rfl) (.cons rfl (avAs_free rfl) (.cons rfl (.c (lstC_ren rfl (by decide))) (.cons rfl (.c (.ref rfl (by decide))) .nil)))))) (.row (by decide) rfl (fr_map fun _ => rfl) (.box (by decide) rfl (blkAs_cells (.cons (.same rfl) (.cons (.same rfl) .nil))) .nil))) (clerestoryref4_WayTo_l3_ok hzout h ?_ hr)
    · intro out3 up1 zout3 hzout3 h _ hw1
      refine Sv.weak hw1 ?_
      refine Sv.seq ?_
      refine Sv.seq ?_
      refine Sv.region ?_
      refine un (a1 rfl ?_)
      refine un (a1 (v := (B (decide (up1 < 0)))) rfl ?_)
      refine dnil ?_
      refine Sv.cond (b := decide (up1 < 0)) rfl (fun hc6 => ?_) (fun hc6 => ?_)
      · replace h := ifT hc6 h
        refine Sv.seq ?_
        refine Sv.region ?_
        refine un (a1 rfl ?_)
        refine un (a1 rfl ?_)
        refine dnil ?_
        refine Sv.ret ?_
        replace h := Option.some.inj h
        subst h
        exact hr _ ⟨_, .refl _, _, rfl, ⟨upd (fun _ => none) 0 (some (.tup [(lstV true 0 1 ([] : List Int).length), (I 5)])), (upd (fun _ => none) 0 (lstB true 1 (([] : List Int).map eI))), 1⟩, (.tup [(lstV true 0 1 ([] : List Int).length), (I 5)]), weak_canon2 [1000] [0] (by decide) (by decide) (fun b h => absurd h (Nat.not_lt_zero _)) (.cons (by decide) .nil) (.cons rfl (avAs_tup (.cons (.c (.same rfl)) (.cons (avAs_free rfl) .nil))) .nil) (.non (by decide) .nil), rfl, true, (fun _ => rfl), rfl, rfl, rfl⟩
      · replace h := ifF hc6 h
        refine Sv.skip ?_
        refine Sv.region ?_
        refine un (a1 rfl ?_)
        refine un (a2v (v := (lstV false 2 1 [up1].length)) (h' := upd _ 2 (lstB false 1 ([up1].map eI))) (n' := 3) rfl rfl (fun h => by cases h) ?_)
        refine un (a1 rfl ?_)
        obtain ⟨r_2, hr3, h⟩ := bnd h
        have hz1 : (false && out3.isEmpty) = true → r_2 = [] := app_nil (z := false) (ys := out3) (fun h => by cases h) hr3
        replace hz1 : false = true → r_2 = [] := hz1
        refine un (a2v rfl (s_app (xs := [up1]) (ys := out3) (e := eI) (z := false) (b := 2) rfl rfl (fun h => by cases h) rfl rfl (slc_lst rfl (List.length_map _).symm (map_nil_of hzout3)) hr3) (fun h => by cases h) ?_)
        refine un (a1 rfl ?_)
        refine dnil ?_
        exact hself r_2 false hz1 h _ (weak_canon [0, 3] rfl (by decide) (by decide) (fun b h => absurd h (Nat.not_lt_zero _)) (.cons rfl (.c (lstC_ren rfl (by decide))) (.cons rfl (.c (.ref rfl (by decide))) .nil)) (.row (by decide) rfl (fr_map fun _ => rfl) (.box (by decide) rfl (blkAs_cells (.cons (.same rfl) (.cons (.same rfl) .nil))) .nil)))
  · replace h := ifF hc3 h
    refine Sv.exit ?_
    exact hK0 out zout hzout h _ (weak_canon [1] rfl (by decide) (by decide) (fun b h => absurd h (Nat.not_lt_zero _)) (.cons rfl (.c (lstC_ren rfl (by decide))) .nil) (.row (by decide) rfl (fr_map fun _ => rfl) .nil))
/-- clerestory/clerestoryref4.WayTo -/
noncomputable def clerestoryref4_WayTo (d_ : TDoc) (n_ : Int) : Option ((List Int) × Int) :=
  (dom_Check d_).bind fun r_ =>
  if (!decide (r_ = 0)) then
    some (([] : List Int), r_)
  else
    if (!(clerestoryref4_Between n_ 0 (wi ((d_.Nodes.length : Int) - 1)))) then
      some (([] : List Int), 1)
    else
      lim fun kk1 => clerestoryref4_WayTo_l2 d_ (fun (out1 : (List Int)) => 
          some (out1, 0)) kk1 [n_]
theorem clerestoryref4_WayTo_ok {mL : Int} {d_ : TDoc} {n_ : Int} {r : ((List Int) × Int)} (h : clerestoryref4_WayTo d_ n_ = some r) : ACalls Tryd.prog (GG mL) 7 [(.agg [.ro false 6 (d_.Nodes.map e_TNode), cB d_.Quirks]), (I n_)] (fun _ => none) 0 (clerestoryref4_WayTo_post r) := by
  refine acalls_of_sv hmix c7 (R := clerestoryref4_WayTo_post r) ?_
  unfold clerestoryref4_WayTo at h
  refine Sv.seq ?_
  refine Sv.region ?_
  refine un (a2v (v := (.c (.ref 0 2 0 0))) (h' := upd _ 0 (some (.cells 2 [[.ro false 6 (d_.Nodes.map e_TNode), cB d_.Quirks]]))) (n' := 1) rfl rfl (fun h => by cases h) ?_)
  refine un (a1 rfl ?_)
  refine un (a1 rfl ?_)
  refine dnil ?_
  refine Sv.seq ?_
  refine Sv.seq ?_
  refine Sv.region ?_
  refine un (a1 (v := (.agg [.ro false 6 (d_.Nodes.map e_TNode), cB d_.Quirks])) rfl ?_)
  obtain ⟨r_, hr1, h⟩ := bnd h
  refine un (ac_pure (dom_Check_ok hr1) rfl rfl rfl ?_)
  refine un (a1 rfl ?_)
  refine dnil ?_
  refine Sv.seq ?_
  refine Sv.region ?_
  refine un (a1 rfl ?_)
  refine un (a1 (v := (B (!decide (r_ = 0)))) rfl ?_)
  refine dnil ?_
  refine Sv.cond (b := (!decide (r_ = 0))) rfl (fun hc1 => ?_) (fun hc1 => ?_)
  · replace h := ifT hc1 h
    refine Sv.seq ?_
    refine Sv.region ?_
    refine un (a1 rfl ?_)
    refine un (a1 rfl ?_)
    refine un (a1 rfl ?_)
    refine dnil ?_
    refine Sv.ret ?_
    replace h := Option.some.inj h
    subst h
    exact ⟨_, .refl _, _, rfl, ⟨upd (fun _ => none) 0 (some (.tup [(lstV true 0 1 ([] : List Int).length), (I r_)])), (upd (fun _ => none) 0 (lstB true 1 (([] : List Int).map eI))), 1⟩, (.tup [(lstV true 0 1 ([] : List Int).length), (I r_)]), weak_canon2 [1000] [0] (by decide) (by decide) (fun b h => absurd h (Nat.not_lt_zero _)) (.cons (by decide) .nil) (.cons rfl (avAs_tup (.cons (.c (.same rfl)) (.cons (avAs_free rfl) .nil))) .nil) (.non (by decide) .nil), rfl, true, (fun _ => rfl), rfl, rfl, rfl⟩
  · replace h := ifF hc1 h
    refine Sv.skip ?_
    refine Sv.seq ?_
    refine Sv.seq ?_
    refine Sv.region ?_
    refine un (a1 rfl ?_)
    refine un (a1 (v := (.c (.ref 0 2 0 0))) rfl ?_)
    refine un (a1 (v := (.c (.ro false 6 (d_.Nodes.map e_TNode)))) rfl ?_)
    refine un (a1 (v := (I (d_.Nodes.length : Int))) (s_len (e := e_TNode) (xs := d_.Nodes) rfl) ?_)
    refine un (a1 (v := (I (wi ((d_.Nodes.length : Int) - 1)))) rfl ?_)
    refine un (ac_pure (clerestoryref4_Between_ok (mL := mL) n_ 0 (wi ((d_.Nodes.length : Int) - 1))) rfl rfl rfl ?_)
    refine un (a1 (v := (B (!(clerestoryref4_Between n_ 0 (wi ((d_.Nodes.length : Int) - 1)))))) rfl ?_)
    refine dnil ?_
    refine Sv.cond (b := (!(clerestoryref4_Between n_ 0 (wi ((d_.Nodes.length : Int) - 1))))) rfl (fun hc2 => ?_) (fun hc2 => ?_)
    · replace h := ifT hc2 h
      refine Sv.seq ?_
      refine Sv.region ?_
      refine un (a1 rfl ?_)
      refine un (a1 rfl ?_)
      refine dnil ?_
      refine Sv.ret ?_
      replace h := Option.some.inj h
      subst h
      exact ⟨_, .refl _, _, rfl, ⟨upd (fun _ => none) 0 (some (.tup [(lstV true 0 1 ([] : List Int).length), (I 1)])), (upd (fun _ => none) 0 (lstB true 1 (([] : List Int).map eI))), 1⟩, (.tup [(lstV true 0 1 ([] : List Int).length), (I 1)]), weak_canon2 [1000] [0] (by decide) (by decide) (fun b h => absurd h (Nat.not_lt_zero _)) (.cons (by decide) .nil) (.cons rfl (avAs_tup (.cons (.c (.same rfl)) (.cons (avAs_free rfl) .nil))) .nil) (.non (by decide) .nil), rfl, true, (fun _ => rfl), rfl, rfl, rfl⟩
    · replace h := ifF hc2 h
      refine Sv.skip ?_
      refine Sv.seq ?_
      refine Sv.region ?_
      refine un (a1 rfl ?_)
      refine un (a2v (v := (lstV false 1 1 [n_].length)) (h' := upd _ 1 (lstB false 1 ([n_].map eI))) (n' := 2) rfl rfl (fun h => by cases h) ?_)
      refine un (a1 rfl ?_)
      refine dnil ?_
      refine Sv.seq ?_
      refine Sv.block ?_
      obtain ⟨kk1, h⟩ := lim_some h
      refine Sv.weak (weak_canon [0, 1] rfl (by decide) (by decide) (fun b h => absurd h (Nat.not_lt_zero _)) (.cons rfl (.c (lstC_ren rfl (by decide))) (.cons rfl (.c (.ref rfl (by decide))) .nil)) (.row (by decide) rfl (fr_map fun _ => rfl) (.box (by decide) rfl (blkAs_cells (.cons (.same rfl) (.cons (.same rfl) .nil))) .nil))) (clerestoryref4_WayTo_l2_ok (fun h => by cases h) h ?_ (fun s hs => hs))
      · intro out1 zout1 hzout1 h _ hw2
        refine Sv.weak hw2 ?_
        refine Sv.seq ?_
        refine Sv.region ?_
        refine un (a1 rfl ?_)
        refine un (a1 rfl ?_)
        refine un (a1 rfl ?_)
        refine dnil ?_
        refine Sv.ret ?_
        replace h := Option.some.inj h
        subst h
        exact ⟨_, .refl _, _, rfl, ⟨upd (fun _ => none) 0 (some (.tup [(lstV zout1 0 1 out1.length), (I 0)])), (upd (fun _ => none) 0 (lstB zout1 1 (out1.map eI))), 1⟩, (.tup [(lstV zout1 0 1 out1.length), (I 0)]), weak_canon2 [0] [0] (by decide) (by decide) (fun b h => absurd h (Nat.not_lt_zero _)) (.cons (by decide) .nil) (.cons rfl (avAs_tup (.cons (.c (lstC_ren rfl (by decide))) (.cons (avAs_free rfl) .nil))) .nil) (.row (by decide) rfl (fr_map fun _ => rfl) .nil), rfl, zout1, hzout1, rfl, rfl, rfl⟩
def a8_c0 : ACode := (.seq (.region [⟨(some 14), (.bin .lss (.tmp 13) (.tmp 12)), none⟩])
 (.seq (.cond (.tmp 14) .skip (.exit 0))
 (.seq (.block 1 (.seq (.region [⟨(some 15), (.mov (.tmp 13)), none⟩, ⟨(some 5), (.mov (.tmp 15)), none⟩])
 (.seq (.drawn (.fin [(⟨(some 16), (.mov (.tmp 0)), none⟩, (0, 0)), (⟨(some 17), (.mov (.tmp 5)), none⟩, (0, 1)), (⟨(some 18), (.iaddr 1 (.tmp 16) (.tmp 17)), none⟩, (0, 2)), (⟨(some 19), (.load false 1 (.tmp 18)), none⟩, (0, 3)), (⟨(some 20), (.mov (.tmp 1)), none⟩, (0, 4)), (⟨(some 21), (.mov (.tmp 5)), none⟩, (0, 5)), (⟨(some 22), (.iaddr 1 (.tmp 20) (.tmp 21)), none⟩, (0, 6)), (⟨(some 23), (.load false 1 (.tmp 22)), none⟩, (0, 7)), (⟨(some 24), (.bin .neq (.tmp 19) (.tmp 23)), none⟩, (0, 8))]))
 (.cond (.tmp 24) (.seq (.region [⟨(some 4), (.mov (.const (.c (.val (.bool false))))), none⟩])
 .ret) .skip))))
 (.region [⟨(some 25), (.bin .add (.tmp 13) (.const (.c (.val (.int .i64 1))))), none⟩, ⟨(some 13), (.mov (.tmp 25)), none⟩]))))
def a8 : AFunc := ⟨2, [(.tmp 4)], (.seq (.region [⟨(some 4), (.mov (.const (.c (.val (.bool false))))), none⟩])
 (.seq (.seq (.region [⟨(some 6), (.mov (.tmp 0)), none⟩, ⟨(some 7), (.len (.tmp 6)), none⟩, ⟨(some 8), (.mov (.tmp 1)), none⟩, ⟨(some 9), (.len (.tmp 8)), none⟩, ⟨(some 10), (.bin .neq (.tmp 7) (.tmp 9)), none⟩])
 (.cond (.tmp 10) (.seq (.region [⟨(some 4), (.mov (.const (.c (.val (.bool false))))), none⟩])
 .ret) .skip))
 (.seq (.seq (.region [⟨(some 11), (.mov (.tmp 0)), none⟩, ⟨(some 12), (.len (.tmp 11)), none⟩, ⟨(some 13), (.mov (.const (.c (.val (.int .i64 0))))), none⟩])
 (.block 0 (.loop a8_c0)))
 (.seq (.region [⟨(some 4), (.mov (.const (.c (.val (.bool true))))), none⟩])
 .ret))))⟩
set_option maxRecDepth 100000 in
theorem c8 : compFunc Tryd.prog 8 = some a8 := by kernel_rfl
def slices_Equal_int_post (r : Bool) : AV → Heap → Nat → Prop := fun v h' n' => v = (B r) ∧ (h' = (fun _ => none)) ∧ n' = 0
abbrev slices_Equal_int_l0_E0 (F_ : Unit → Option Bool) (o : Bool) (R_ : St → Prop) : Prop := ∀ (_ : Unit), F_ () = some o → ∀ s, Weak 0 s ⟨(fun _ => none), (fun _ => none), 0⟩ → R_ s
abbrev slices_Equal_int_l0_I (s1 : (List Int)) (s2 : (List Int)) (F_ : Nat → Int → Option Bool) (o : Bool) : Nat → St → Prop := fun k s => ∃ (v13 : Int), F_ k v13 = some o ∧ s = ⟨(upd (upd (upd (upd (fun _ => none) 0 (some (.c (.ro false 1 (s1.map eI))))) 1 (some (.c (.ro false 1 (s2.map eI))))) 12 (some (I (s1.length : Int)))) 13 (some (I v13))), (fun _ => none), 0⟩
abbrev slices_Equal_int_l0_H (s1 : (List Int)) (s2 : (List Int)) (F_ : Int → Option Bool) (o : Bool) (R_ : St → Prop) : Prop := ∀ (v13 : Int), F_ v13 = some o → ∀ s, Weak 0 s ⟨(upd (upd (upd (upd (fun _ => none) 0 (some (.c (.ro false 1 (s1.map eI))))) 1 (some (.c (.ro false 1 (s2.map eI))))) 12 (some (I (s1.length : Int)))) 13 (some (I v13))), (fun _ => none), 0⟩ → R_ s
noncomputable def slices_Equal_int_l0 (s1 : (List Int)) (s2 : (List Int)) (K0_ : Unit → Option Bool) : Nat → Int → Option Bool
  | 0, _ => none
  | k + 1, v13 =>
    if decide (v13 < (s1.length : Int)) then
      (at? s1 v13).bind fun x_ =>
      (at? s2 v13).bind fun x_1 =>
      if (!decide (x_ = x_1)) then
        some false
      else
        (slices_Equal_int_l0 s1 s2 K0_ k) (wi (v13 + 1))
    else
      K0_ ()
theorem slices_Equal_int_l0_ok {mL : Int} {Q : AExit → St → Prop} {s1 : (List Int)} {s2 : (List Int)} {K0_ : Unit → Option Bool} {k : Nat} {v13 : Int} {o : Bool} (h : slices_Equal_int_l0 s1 s2 K0_ k v13 = some o)
    (hK0 : slices_Equal_int_l0_E0 K0_ o (Q (.exit 0)))
    (hr : ∀ s, Ends a8.results 0 (slices_Equal_int_post o) .ret s → Q .ret s) :
    Sv Tryd.prog (GG mL) 0 (.loop a8_c0) Q ⟨(upd (upd (upd (upd (fun _ => none) 0 (some (.c (.ro false 1 (s1.map eI))))) 1 (some (.c (.ro false 1 (s2.map eI))))) 12 (some (I (s1.length : Int)))) 13 (some (I v13))), (fun _ => none), 0⟩ := by
  refine Sv.loop (I := slices_Equal_int_l0_I s1 s2 (slices_Equal_int_l0 s1 s2 K0_) o) (fun k s hI => ?_) ⟨v13, h, rfl⟩
  clear h
  clear v13
  obtain ⟨v13, h, rfl⟩ := hI
  cases k with
  | zero => cases h
  | succ k =>
  rw [slices_Equal_int_l0] at h
  have hself : slices_Equal_int_l0_H s1 s2 (slices_Equal_int_l0 s1 s2 K0_ k) o (rnd 0 (slices_Equal_int_l0_I s1 s2 (slices_Equal_int_l0 s1 s2 K0_) o) k Q) := fun v13 h s hw => ⟨_, k, hw, Nat.lt_succ_self k, v13, h, rfl⟩
  refine Sv.seq ?_
  refine Sv.region ?_
  refine un (a1 (v := (B (decide (v13 < (s1.length : Int))))) rfl ?_)
  refine dnil ?_
  refine Sv.seq ?_
  refine Sv.cond (b := decide (v13 < (s1.length : Int))) rfl (fun hc2 => ?_) (fun hc2 => ?_)
  · replace h := ifT hc2 h
    refine Sv.skip ?_
    refine Sv.seq ?_
    refine Sv.block ?_
    refine Sv.seq ?_
    refine Sv.region ?_
    refine un (a1 rfl ?_)
    refine un (a1 rfl ?_)
    refine dnil ?_
    refine Sv.seq ?_
    refine Sv.drawn ?_
    refine un (a1 rfl ?_)
    refine un (a1 rfl ?_)
    obtain ⟨x_, hx1, h⟩ := bnd h
    refine un (a1 (v := (.c (.rop [cI x_]))) (s_iaddr (e := eI) (xs := s1) rfl rfl hx1) ?_)
    refine un (a1 (v := (I x_)) rfl ?_)
    refine un (a1 rfl ?_)
    refine un (a1 rfl ?_)
    obtain ⟨x_1, hx2, h⟩ := bnd h
    refine un (a1 (v := (.c (.rop [cI x_1]))) (s_iaddr (e := eI) (xs := s2) rfl rfl hx2) ?_)
    refine un (a1 (v := (I x_1)) rfl ?_)
    refine un (a1 (v := (B (!decide (x_ = x_1)))) rfl ?_)
    refine dnil ?_
    refine Sv.cond (b := (!decide (x_ = x_1))) rfl (fun hc3 => ?_) (fun hc3 => ?_)
    · replace h := ifT hc3 h
      refine Sv.seq ?_
      refine Sv.region ?_
      refine un (a1 rfl ?_)
      refine dnil ?_
      refine Sv.ret ?_
      replace h := Option.some.inj h
      subst h
      exact hr _ ⟨_, .refl _, _, rfl, ⟨upd (fun _ => none) 0 (some (B false)), (fun _ => none), 0⟩, (B false), weak_canon [] rfl List.nodup_nil (Nat.le_refl _) (fun b h => absurd h (Nat.not_lt_zero _)) (.cons rfl (avAs_free rfl) .nil) .nil, rfl, rfl, rfl, rfl⟩
    · replace h := ifF hc3 h
      refine Sv.skip ?_
      refine Sv.region ?_
      refine un (a1 (v := (I (wi (v13 + 1)))) rfl ?_)
      refine un (a1 rfl ?_)
      refine dnil ?_
      exact hself (wi (v13 + 1)) h _ (weak_canon [] rfl (by decide) (by decide) (fun b h => absurd h (Nat.not_lt_zero _)) (.cons rfl (avAs_free rfl) (.cons rfl (avAs_free rfl) (.cons rfl (avAs_free rfl) (.cons rfl (avAs_free rfl) .nil)))) .nil)
  · replace h := ifF hc2 h
    refine Sv.exit ?_
    exact hK0 () h _ (weak_canon [] rfl (by decide) (by decide) (fun b h => absurd h (Nat.not_lt_zero _)) .nil .nil)
/-- slices.Equal(()int,int) -/
noncomputable def slices_Equal_int (s1 : (List Int)) (s2 : (List Int)) : Option Bool :=
  if (!decide ((s1.length : Int) = (s2.length : Int))) then
    some false
  else
    lim fun kk => slices_Equal_int_l0 s1 s2 (fun (_ : Unit) => 
        some true) kk 0
theorem slices_Equal_int_ok {mL : Int} {s1 : (List Int)} {s2 : (List Int)} {r : Bool} (h : slices_Equal_int s1 s2 = some r) : CPure Tryd.prog (GG mL) 8 [(.c (.ro false 1 (s1.map eI))), (.c (.ro false 1 (s2.map eI)))] (B r) := by
  refine acalls_of_sv hmix c8 (R := slices_Equal_int_post r) ?_
  unfold slices_Equal_int at h
  refine Sv.seq ?_
  refine Sv.region ?_
  refine un (a1 rfl ?_)
  refine dnil ?_
  refine Sv.seq ?_
  refine Sv.seq ?_
  refine Sv.region ?_
  refine un (a1 rfl ?_)
  refine un (a1 (v := (I (s1.length : Int))) (s_len (e := eI) (xs := s1) rfl) ?_)
  refine un (a1 rfl ?_)
  refine un (a1 (v := (I (s2.length : Int))) (s_len (e := eI) (xs := s2) rfl) ?_)
  refine un (a1 (v := (B (!decide ((s1.length : Int) = (s2.length : Int))))) rfl ?_)
  refine dnil ?_
  refine Sv.cond (b := (!decide ((s1.length : Int) = (s2.length : Int)))) rfl (fun hc1 => ?_) (fun hc1 => ?_)
  · replace h := ifT hc1 h
    refine Sv.seq ?_
    refine Sv.region ?_
    refine un (a1 rfl ?_)
    refine dnil ?_
    refine Sv.ret ?_
    replace h := Option.some.inj h
    subst h
    exact ⟨_, .refl _, _, rfl, ⟨upd (fun _ => none) 0 (some (B false)), (fun _ => none), 0⟩, (B false), weak_canon [] rfl List.nodup_nil (Nat.le_refl _) (fun b h => absurd h (Nat.not_lt_zero _)) (.cons rfl (avAs_free rfl) .nil) .nil, rfl, rfl, rfl, rfl⟩
  · replace h := ifF hc1 h
    refine Sv.skip ?_
    refine Sv.seq ?_
    refine Sv.seq ?_
    refine Sv.region ?_
    refine un (a1 rfl ?_)
    refine un (a1 (v := (I (s1.length : Int))) (s_len (e := eI) (xs := s1) rfl) ?_)
    refine un (a1 rfl ?_)
    refine dnil ?_
    refine Sv.block ?_
    obtain ⟨kk, h⟩ := lim_some h
    refine Sv.weak (weak_canon [] rfl (by decide) (by decide) (fun b h => absurd h (Nat.not_lt_zero _)) (.cons rfl (avAs_free rfl) (.cons rfl (avAs_free rfl) (.cons rfl (avAs_free rfl) (.cons rfl (avAs_free rfl) .nil)))) .nil) (slices_Equal_int_l0_ok h ?_ (fun s hs => hs))
    · intro _ h _ hw1
      refine Sv.weak hw1 ?_
      refine Sv.seq ?_
      refine Sv.region ?_
      refine un (a1 rfl ?_)
      refine dnil ?_
      refine Sv.ret ?_
      replace h := Option.some.inj h
      subst h
      exact ⟨_, .refl _, _, rfl, ⟨upd (fun _ => none) 0 (some (B true)), (fun _ => none), 0⟩, (B true), weak_canon [] rfl List.nodup_nil (Nat.le_refl _) (fun b h => absurd h (Nat.not_lt_zero _)) (.cons rfl (avAs_free rfl) .nil) .nil, rfl, rfl, rfl, rfl⟩
def a24 : AFunc := ⟨1, [(.tmp 2), (.tmp 3), (.tmp 4), (.tmp 5)], (.seq (.region [⟨(some 2), (.mov (.const (.c (.ro true 3 [])))), none⟩, ⟨(some 3), (.mov (.const (.c (.val (.bool false))))), none⟩, ⟨(some 4), (.mov (.const (.c (.ro true 8 [])))), none⟩, ⟨(some 5), (.mov (.const (.c (.val (.int .i64 0))))), none⟩])
 (.seq (.region [⟨(some 6), (.mov (.tmp 0)), none⟩, ⟨(some 2), (.mov (.const (.c (.ro true 3 [])))), none⟩, ⟨(some 3), (.mov (.const (.c (.val (.bool false))))), none⟩, ⟨(some 4), (.mov (.const (.c (.ro true 8 [])))), none⟩, ⟨(some 5), (.mov (.tmp 6)), none⟩])
 .ret))⟩
set_option maxRecDepth 100000 in
theorem c24 : compFunc Tryd.prog 24 = some a24 := by kernel_rfl
def clerestoryref4_Sent_fn1_post (r : ((List THeard) × Bool × (List TListener) × Int)) : AV → Heap → Nat → Prop := fun v h' n' => v = (.tup [(.c (.ro false 3 (r.1.map e_THeard))), (B r.2.1), (.c (.ro false 8 (r.2.2.1.map e_TListener))), (I r.2.2.2)]) ∧ (h' = (fun _ => none)) ∧ n' = 0
/-- clerestory/clerestoryref4.Sent$1 -/
def clerestoryref4_Sent_fn1 (x_ : Int) : ((List THeard) × Bool × (List TListener) × Int) :=
  (([] : List THeard), false, ([] : List TListener), x_)
theorem clerestoryref4_Sent_fn1_ok {mL : Int} (x_ : Int) : CPure Tryd.prog (GG mL) 24 [(I x_)] (.tup [(.c (.ro false 3 (((clerestoryref4_Sent_fn1 x_).1).map e_THeard))), (B ((clerestoryref4_Sent_fn1 x_).2.1)), (.c (.ro false 8 (((clerestoryref4_Sent_fn1 x_).2.2.1).map e_TListener))), (I ((clerestoryref4_Sent_fn1 x_).2.2.2))]) := by
  generalize h : clerestoryref4_Sent_fn1 x_ = o
  refine acalls_of_sv hmix c24 (R := clerestoryref4_Sent_fn1_post o) ?_
  unfold clerestoryref4_Sent_fn1 at h
  refine Sv.seq ?_
  refine Sv.region ?_
  refine un (a1 rfl ?_)
  refine un (a1 rfl ?_)
  refine un (a1 rfl ?_)
  refine un (a1 rfl ?_)
  refine dnil ?_
  refine Sv.seq ?_
  refine Sv.region ?_
  refine un (a1 rfl ?_)
  refine un (a1 rfl ?_)
  refine un (a1 rfl ?_)
  refine un (a1 rfl ?_)
  refine un (a1 rfl ?_)
  refine dnil ?_
  refine Sv.ret ?_
  subst h
  exact ⟨_, .refl _, _, rfl, ⟨upd (fun _ => none) 0 (some (.tup [(.c (.ro false 3 (([] : List THeard).map e_THeard))), (B false), (.c (.ro false 8 (([] : List TListener).map e_TListener))), (I x_)])), (fun _ => none), 0⟩, (.tup [(.c (.ro false 3 (([] : List THeard).map e_THeard))), (B false), (.c (.ro false 8 (([] : List TListener).map e_TListener))), (I x_)]), weak_canon [] rfl List.nodup_nil (Nat.le_refl _) (fun b h => absurd h (Nat.not_lt_zero _)) (.cons rfl (avAs_tup (.cons (.c .nil) (.cons (avAs_free rfl) (.cons (.c .nil) (.cons (avAs_free rfl) .nil))))) .nil) .nil, rfl, rfl, rfl, rfl⟩
def a25_c1 : ACode := (.seq (.region [⟨(some 72), (.load false 1 (.tmp 3)), none⟩, ⟨(some 73), (.mov (.tmp 72)), none⟩, ⟨(some 74), (.faddr 5 (.tmp 14)), (some (73, false))⟩, ⟨(some 75), (.load false 1 (.tmp 74)), (some (73, false))⟩, ⟨(some 76), (.pick (.tmp 73) (.const (.c (.val (.bool true)))) (.tmp 75)), none⟩, ⟨(some 77), (.mov (.tmp 76)), none⟩, ⟨(some 78), (.faddr 6 (.tmp 14)), (some (77, false))⟩, ⟨(some 79), (.load false 1 (.tmp 78)), (some (77, false))⟩, ⟨(some 80), (.pick (.tmp 77) (.const (.c (.val (.bool true)))) (.tmp 79)), none⟩, ⟨none, (.store 1 (.tmp 3) (.tmp 80)), none⟩])
 (.seq (.region [⟨(some 81), (.faddr 6 (.tmp 14)), none⟩, ⟨(some 82), (.load false 1 (.tmp 81)), none⟩])
 (.cond (.tmp 82) .ret .skip)))
def a25_c2 : ACode := (.region [⟨(some 83), (.bin .add (.tmp 23) (.const (.c (.val (.int .i64 1))))), none⟩, ⟨(some 23), (.mov (.tmp 83)), none⟩])
def a25_c3 : ACode := (.seq (.region [⟨(some 24), (.bin .lss (.tmp 23) (.tmp 22)), none⟩])
 (.seq (.cond (.tmp 24) .skip (.exit 0))
 (.seq (.block 1 (.seq (.region [⟨(some 25), (.iaddr 8 (.tmp 21) (.tmp 23)), none⟩, ⟨(some 26), (.load true 8 (.tmp 25)), none⟩, ⟨(some 14), (.box (.const (.agg [(.val (.int .i64 0)), (.val (.int .i64 0)), (.str []), (.val (.bool false)), (.val (.bool false)), (.val (.bool false)), (.val (.bool false)), (.val (.bool false))]))), none⟩, ⟨none, (.store 8 (.tmp 14) (.tmp 26)), none⟩])
 (.seq (.seq (.drawn (.fin [(⟨(some 27), (.faddr 1 (.tmp 14)), none⟩, (0, 0)), (⟨(some 28), (.load false 1 (.tmp 27)), none⟩, (0, 1)), (⟨(some 29), (.load false 1 (.tmp 4)), none⟩, (0, 2)), (⟨(some 30), (.mov (.tmp 0)), none⟩, (0, 3)), (⟨(some 31), (.iaddr 1 (.tmp 29) (.tmp 30)), none⟩, (0, 4)), (⟨(some 32), (.load false 1 (.tmp 31)), none⟩, (0, 5)), (⟨(some 33), (.bin .neq (.tmp 28) (.tmp 32)), none⟩, (0, 6)), (⟨(some 34), (.mov (.tmp 33)), none⟩, (0, 7)), (⟨(some 35), (.faddr 2 (.tmp 14)), (some (34, false))⟩, (0, 8)), (⟨(some 36), (.load false 1 (.tmp 35)), (some (34, false))⟩, (0, 9)), (⟨(some 37), (.faddr 0 (.tmp 6)), (some (34, false))⟩, (0, 10)), (⟨(some 38), (.load false 1 (.tmp 37)), (some (34, false))⟩, (0, 11)), (⟨(some 39), (.bin .neq (.tmp 36) (.tmp 38)), (some (34, false))⟩, (0, 12)), (⟨(some 40), (.pick (.tmp 34) (.const (.c (.val (.bool true)))) (.tmp 39)), none⟩, (0, 13)), (⟨(some 41), (.mov (.tmp 40)), none⟩, (0, 14)), (⟨(some 42), (.faddr 3 (.tmp 14)), (some (41, false))⟩, (0, 15)), (⟨(some 43), (.load false 1 (.tmp 42)), (some (41, false))⟩, (0, 16)), (⟨(some 44), (.mov (.tmp 1)), (some (41, false))⟩, (0, 17)), (⟨(some 45), (.eqs true false [.b] (.tmp 43) (.tmp 44)), (some (41, false))⟩, (0, 18)), (⟨(some 46), (.pick (.tmp 41) (.const (.c (.val (.bool true)))) (.tmp 45)), none⟩, (0, 19))]))
 (.cond (.tmp 46) (.exit 1) .skip))
 (.seq (.region [⟨(some 47), (.load false 1 (.tmp 7)), none⟩, ⟨(some 48), (.faddr 0 (.tmp 14)), none⟩, ⟨(some 49), (.load false 1 (.tmp 48)), none⟩, ⟨(some 50), (.faddr 1 (.tmp 14)), none⟩, ⟨(some 51), (.load false 1 (.tmp 50)), none⟩, ⟨(some 52), (.mov (.tmp 2)), none⟩, ⟨(some 53), (.build [(.val (.int .i64 0)), (.val (.int .i64 0)), (.val (.int .i64 0))] [(0, (1, (.tmp 49))), (1, (1, (.tmp 51))), (2, (1, (.tmp 52)))]), none⟩, ⟨(some 54), (.bslice 3 [(.val (.int .i64 0)), (.val (.int .i64 0)), (.val (.int .i64 0))] 1 [(0, (.tmp 53))]), none⟩, ⟨(some 55), (.app 3 24 (.tmp 47) (.tmp 54)), none⟩, ⟨none, (.store 1 (.tmp 7) (.tmp 55)), none⟩])
 (.seq (.region [⟨(some 56), (.load false 1 (.tmp 8)), none⟩, ⟨(some 57), (.mov (.tmp 56)), none⟩, ⟨(some 58), (.faddr 7 (.tmp 14)), (some (57, false))⟩, ⟨(some 59), (.load false 1 (.tmp 58)), (some (57, false))⟩, ⟨(some 60), (.mov (.tmp 59)), (some (57, false))⟩, ⟨(some 61), (.faddr 6 (.tmp 6)), (some (60, true))⟩, ⟨(some 62), (.load false 1 (.tmp 61)), (some (60, true))⟩, ⟨(some 63), (.pick (.tmp 60) (.tmp 62) (.const (.c (.val (.bool false))))), (some (57, false))⟩, ⟨(some 64), (.pick (.tmp 57) (.const (.c (.val (.bool true)))) (.tmp 63)), none⟩, ⟨none, (.store 1 (.tmp 8) (.tmp 64)), none⟩])
 (.seq (.seq (.region [⟨(some 65), (.faddr 4 (.tmp 14)), none⟩, ⟨(some 66), (.load false 1 (.tmp 65)), none⟩])
 (.cond (.tmp 66) (.region [⟨(some 67), (.load false 1 (.tmp 9)), none⟩, ⟨(some 68), (.faddr 0 (.tmp 14)), none⟩, ⟨(some 69), (.load false 1 (.tmp 68)), none⟩, ⟨(some 70), (.bslice 1 [(.val (.int .i64 0))] 1 [(0, (.tmp 69))]), none⟩, ⟨(some 71), (.app 1 8 (.tmp 67) (.tmp 70)), none⟩, ⟨none, (.store 1 (.tmp 9) (.tmp 71)), none⟩]) .skip))
 a25_c1))))))
 a25_c2)))
def a25_c0 : ACode := (.seq (.region [⟨(some 21), (.load false 1 (.tmp 5)), none⟩, ⟨(some 22), (.len (.tmp 21)), none⟩, ⟨(some 23), (.mov (.const (.c (.val (.int .i64 0))))), none⟩])
 (.block 0 (.loop a25_c3)))
def a25 : AFunc := ⟨10, [], (.seq (.seq (.region [⟨(some 15), (.load false 1 (.tmp 3)), none⟩])
 (.cond (.tmp 15) .ret .skip))
 (.seq (.seq (.region [⟨(some 16), (.mov (.tmp 0)), none⟩, ⟨(some 17), (.load false 1 (.tmp 4)), none⟩, ⟨(some 18), (.len (.tmp 17)), none⟩, ⟨(some 19), (.bin .sub (.tmp 18) (.const (.c (.val (.int .i64 1))))), none⟩, ⟨(some 20), (.bin .eql (.tmp 16) (.tmp 19)), none⟩])
 (.cond (.tmp 20) (.region [⟨(some 2), (.mov (.const (.c (.val (.int .i64 2))))), none⟩]) .skip))
 a25_c0))⟩
set_option maxRecDepth 100000 in
theorem c25 : compFunc Tryd.prog 25 = some a25 := by kernel_rfl
def clerestoryref4_Sent_fn2_post (r : (Bool × (List THeard) × Bool × (List Int))) : AV → Heap → Nat → Prop := fun v h' n' => ∃ z0 : Bool, (z0 = true → r.2.1 = []) ∧ ∃ z1 : Bool, (z1 = true → r.2.2.2 = []) ∧ v = (.tup []) ∧ (h' = (upd (upd (upd (upd (upd (upd (fun _ => none) 0 (some (.cells 1 [[cB r.1]]))) 1 (some (.cells 1 [[lstC z0 6 3 r.2.1.length]]))) 3 (some (.cells 1 [[cB r.2.2.1]]))) 4 (some (.cells 1 [[lstC z1 7 1 r.2.2.2.length]]))) 6 (lstB z0 3 (r.2.1.map e_THeard))) 7 (lstB z1 1 (r.2.2.2.map eI)))) ∧ n' = 8
abbrev clerestoryref4_Sent_fn2_l0_H (k_ : Int) (down : Bool) (phase1 : Int) (v4 : (List Int)) (v60 : (List UInt8)) (v61 : Int) (v62 : Int) (v63 : Int) (v64 : (List UInt8)) (v65 : Bool) (v66 : Bool) (v5 : (List TListener)) (F_ : Bool → (List THeard) → Bool → (List Int) → Int → Option (Bool × (List THeard) × Bool × (List Int))) (o : (Bool × (List THeard) × Bool × (List Int))) (R_ : St → Prop) : Prop := ∀ (v31 : Bool) (v72 : (List THeard)) (v81 : Bool) (v92 : (List Int)) (v23 : Int) (zv72 : Bool) (_ : zv72 = true → v72 = []) (zv92 : Bool) (_ : zv92 = true → v92 = []), F_ v31 v72 v81 v92 v23 = some o → ∀ s, Weak 6 s ⟨(upd (upd (upd (upd (upd (upd (upd (upd (upd (upd (upd (upd (fun _ => none) 0 (some (I k_))) 1 (some (B down))) 2 (some (I phase1))) 3 (some (.c (.ref 0 1 0 0)))) 4 (some (.c (.rop [.ro false 1 (v4.map eI)])))) 6 (some (.c (.rop [.str v60, cI v61, cI v62, cI v63, .str v64, cB v65, cB v66])))) 7 (some (.c (.ref 1 1 0 0)))) 8 (some (.c (.ref 3 1 0 0)))) 9 (some (.c (.ref 4 1 0 0)))) 21 (some (.c (.ro false 8 (v5.map e_TListener))))) 22 (some (I (v5.length : Int)))) 23 (some (I v23))), (upd (upd (upd (upd (upd (upd (fun _ => none) 0 (some (.cells 1 [[cB v31]]))) 1 (some (.cells 1 [[lstC zv72 6 3 v72.length]]))) 3 (some (.cells 1 [[cB v81]]))) 4 (some (.cells 1 [[lstC zv92 7 1 v92.length]]))) 6 (lstB zv72 3 (v72.map e_THeard))) 7 (lstB zv92 1 (v92.map eI))), 8⟩ → R_ s
abbrev clerestoryref4_Sent_fn2_l0_E0 (F_ : Bool → (List THeard) → Bool → (List Int) → Option (Bool × (List THeard) × Bool × (List Int))) (o : (Bool × (List THeard) × Bool × (List Int))) (R_ : St → Prop) : Prop := ∀ (v32 : Bool) (v73 : (List THeard)) (v82 : Bool) (v93 : (List Int)) (zv73 : Bool) (_ : zv73 = true → v73 = []) (zv93 : Bool) (_ : zv93 = true → v93 = []), F_ v32 v73 v82 v93 = some o → ∀ s, Weak 6 s ⟨(upd (upd (upd (upd (fun _ => none) 3 (some (.c (.ref 0 1 0 0)))) 7 (some (.c (.ref 1 1 0 0)))) 8 (some (.c (.ref 3 1 0 0)))) 9 (some (.c (.ref 4 1 0 0)))), (upd (upd (upd (upd (upd (upd (fun _ => none) 0 (some (.cells 1 [[cB v32]]))) 1 (some (.cells 1 [[lstC zv73 6 3 v73.length]]))) 3 (some (.cells 1 [[cB v82]]))) 4 (some (.cells 1 [[lstC zv93 7 1 v93.length]]))) 6 (lstB zv73 3 (v73.map e_THeard))) 7 (lstB zv93 1 (v93.map eI))), 8⟩ → R_ s
noncomputable def clerestoryref4_Sent_fn2_j8 (v23 : Int) (k_ : Int) (down : Bool) (phase1 : Int) (v4 : (List Int)) (v60 : (List UInt8)) (v61 : Int) (v62 : Int) (v63 : Int) (v64 : (List UInt8)) (v65 : Bool) (v66 : Bool) (v5 : (List TListener)) (self : Bool → (List THeard) → Bool → (List Int) → Int → Option (Bool × (List THeard) × Bool × (List Int))) (K0_ : Bool → (List THeard) → Bool → (List Int) → Option (Bool × (List THeard) × Bool × (List Int))) (v33 : Bool) (v74 : (List THeard)) (v83 : Bool) (v94 : (List Int)) : Option (Bool × (List THeard) × Bool × (List Int)) :=
  self v33 v74 v83 v94 (wi (v23 + 1))
theorem clerestoryref4_Sent_fn2_j8_ok {mL : Int} {Q : AExit → St → Prop} {v23 : Int} {k_ : Int} {down : Bool} {phase1 : Int} {v4 : (List Int)} {v60 : (List UInt8)} {v61 : Int} {v62 : Int} {v63 : Int} {v64 : (List UInt8)} {v65 : Bool} {v66 : Bool} {v5 : (List TListener)} {self : Bool → (List THeard) → Bool → (List Int) → Int → Option (Bool × (List THeard) × Bool × (List Int))} {K0_ : Bool → (List THeard) → Bool → (List Int) → Option (Bool × (List THeard) × Bool × (List Int))} {v33 : Bool} {v74 : (List THeard)} {v83 : Bool} {v94 : (List Int)} {zv74 : Bool} (hzv74 : zv74 = true → v74 = []) {zv94 : Bool} (hzv94 : zv94 = true → v94 = []) {o : (Bool × (List THeard) × Bool × (List Int))} (h : clerestoryref4_Sent_fn2_j8 v23 k_ down phase1 v4 v60 v61 v62 v63 v64 v65 v66 v5 self K0_ v33 v74 v83 v94 = some o)
    (hself : clerestoryref4_Sent_fn2_l0_H k_ down phase1 v4 v60 v61 v62 v63 v64 v65 v66 v5 self o (Q .normal))
    (hK0 : clerestoryref4_Sent_fn2_l0_E0 K0_ o (Q (.exit 0)))
    (hr : ∀ s, Ends a25.results 6 (clerestoryref4_Sent_fn2_post o) .ret s → Q .ret s) :
    Sv Tryd.prog (GG mL) 6 a25_c2 Q ⟨(upd (upd (upd (upd (upd (upd (upd (upd (upd (upd (upd (upd (fun _ => none) 0 (some (I k_))) 1 (some (B down))) 2 (some (I phase1))) 3 (some (.c (.ref 0 1 0 0)))) 4 (some (.c (.rop [.ro false 1 (v4.map eI)])))) 6 (some (.c (.rop [.str v60, cI v61, cI v62, cI v63, .str v64, cB v65, cB v66])))) 7 (some (.c (.ref 1 1 0 0)))) 8 (some (.c (.ref 3 1 0 0)))) 9 (some (.c (.ref 4 1 0 0)))) 21 (some (.c (.ro false 8 (v5.map e_TListener))))) 22 (some (I (v5.length : Int)))) 23 (some (I v23))), (upd (upd (upd (upd (upd (upd (fun _ => none) 0 (some (.cells 1 [[cB v33]]))) 1 (some (.cells 1 [[lstC zv74 6 3 v74.length]]))) 3 (some (.cells 1 [[cB v83]]))) 4 (some (.cells 1 [[lstC zv94 7 1 v94.length]]))) 6 (lstB zv74 3 (v74.map e_THeard))) 7 (lstB zv94 1 (v94.map eI))), 8⟩ := by
  unfold clerestoryref4_Sent_fn2_j8 at h
  refine Sv.region ?_
  refine un (a1 (v := (I (wi (v23 + 1)))) rfl ?_)
  refine un (a1 rfl ?_)
  refine dnil ?_
  exact hself v33 v74 v83 v94 (wi (v23 + 1)) zv74 hzv74 zv94 hzv94 h _ (weak_canon [0, 1, 2, 3, 4, 5, 6, 7] rfl (by decide) (by decide) (by decide) (.cons rfl (avAs_free rfl) (.cons rfl (avAs_free rfl) (.cons rfl (avAs_free rfl) (.cons rfl (.c (.ref rfl (by decide))) (.cons rfl (.c (.ref rfl (by decide))) (.cons rfl (.c (.ref rfl (by decide))) (.cons rfl (avAs_free rfl) (.cons rfl (avAs_free rfl) (.cons rfl (.c (.ref rfl (by decide))) (.cons rfl (avAs_free rfl) (.cons rfl (avAs_free rfl) (.cons rfl (avAs_free rfl) .nil)))))))))))) (.row (by decide) rfl (fr_map fun _ => rfl) (.row (by decide) rfl (fr_map fun _ => rfl) (.box (by decide) rfl (blkAs_cells (.cons (lstC_ren rfl (by decide)) .nil)) (.box (by decide) rfl (blkAs_cells (.cons (.same rfl) .nil)) (.box (by decide) rfl (blkAs_cells (.cons (lstC_ren rfl (by decide)) .nil)) (.box (by decide) rfl (blkAs_cells (.cons (.same rfl) .nil)) .nil)))))))
abbrev clerestoryref4_Sent_fn2_q0 (mL : Int) (Q : AExit → St → Prop) : AExit → St → Prop := AThen (Sv Tryd.prog (GG mL) 6 a25_c2 Q) Q
abbrev clerestoryref4_Sent_fn2_q1 (mL : Int) (Q : AExit → St → Prop) : AExit → St → Prop := ABlock 1 (clerestoryref4_Sent_fn2_q0 mL Q)
noncomputable def clerestoryref4_Sent_fn2_j9 (x_ : TListener) (v31 : Bool) (v81 : Bool) (v66 : Bool) (v23 : Int) (k_ : Int) (down : Bool) (phase1 : Int) (v4 : (List Int)) (v60 : (List UInt8)) (v61 : Int) (v62 : Int) (v63 : Int) (v64 : (List UInt8)) (v65 : Bool) (v5 : (List TListener)) (self : Bool → (List THeard) → Bool → (List Int) → Int → Option (Bool × (List THeard) × Bool × (List Int))) (K0_ : Bool → (List THeard) → Bool → (List Int) → Option (Bool × (List THeard) × Bool × (List Int))) (v75 : (List THeard)) (v95 : (List Int)) : Option (Bool × (List THeard) × Bool × (List Int)) :=
  if x_.StopsAll then
    some (((v31 || x_.Stops) || x_.StopsAll), v75, (v81 || (x_.Prevents && v66)), v95)
  else
    clerestoryref4_Sent_fn2_j8 v23 k_ down phase1 v4 v60 v61 v62 v63 v64 v65 v66 v5 self K0_ ((v31 || x_.Stops) || x_.StopsAll) v75 (v81 || (x_.Prevents && v66)) v95
theorem clerestoryref4_Sent_fn2_j9_ok {mL : Int} {Q : AExit → St → Prop} {x_ : TListener} {v31 : Bool} {v81 : Bool} {v66 : Bool} {v23 : Int} {k_ : Int} {down : Bool} {phase1 : Int} {v4 : (List Int)} {v60 : (List UInt8)} {v61 : Int} {v62 : Int} {v63 : Int} {v64 : (List UInt8)} {v65 : Bool} {v5 : (List TListener)} {self : Bool → (List THeard) → Bool → (List Int) → Int → Option (Bool × (List THeard) × Bool × (List Int))} {K0_ : Bool → (List THeard) → Bool → (List Int) → Option (Bool × (List THeard) × Bool × (List Int))} {v75 : (List THeard)} {v95 : (List Int)} {zv75 : Bool} (hzv75 : zv75 = true → v75 = []) {zv95 : Bool} (hzv95 : zv95 = true → v95 = []) {o : (Bool × (List THeard) × Bool × (List Int))} (h : clerestoryref4_Sent_fn2_j9 x_ v31 v81 v66 v23 k_ down phase1 v4 v60 v61 v62 v63 v64 v65 v5 self K0_ v75 v95 = some o)
    (hself : clerestoryref4_Sent_fn2_l0_H k_ down phase1 v4 v60 v61 v62 v63 v64 v65 v66 v5 self o (Q .normal))
    (hK0 : clerestoryref4_Sent_fn2_l0_E0 K0_ o (Q (.exit 0)))
    (hr : ∀ s, Ends a25.results 6 (clerestoryref4_Sent_fn2_post o) .ret s → Q .ret s) :
    Sv Tryd.prog (GG mL) 6 a25_c1 (clerestoryref4_Sent_fn2_q1 mL Q) ⟨(upd (upd (upd (upd (upd (upd (upd (upd (upd (upd (upd (upd (upd (fun _ => none) 0 (some (I k_))) 1 (some (B down))) 2 (some (I phase1))) 3 (some (.c (.ref 0 1 0 0)))) 4 (some (.c (.rop [.ro false 1 (v4.map eI)])))) 6 (some (.c (.rop [.str v60, cI v61, cI v62, cI v63, .str v64, cB v65, cB v66])))) 7 (some (.c (.ref 1 1 0 0)))) 8 (some (.c (.ref 3 1 0 0)))) 9 (some (.c (.ref 4 1 0 0)))) 14 (some (.c (.ref 8 8 0 0)))) 21 (some (.c (.ro false 8 (v5.map e_TListener))))) 22 (some (I (v5.length : Int)))) 23 (some (I v23))), (upd (upd (upd (upd (upd (upd (upd (fun _ => none) 0 (some (.cells 1 [[cB v31]]))) 1 (some (.cells 1 [[lstC zv75 6 3 v75.length]]))) 3 (some (.cells 1 [[cB (v81 || (x_.Prevents && v66))]]))) 4 (some (.cells 1 [[lstC zv95 7 1 v95.length]]))) 6 (lstB zv75 3 (v75.map e_THeard))) 7 (lstB zv95 1 (v95.map eI))) 8 (some (.cells 8 [[cI x_.ID, cI x_.Node, .str x_.f_Type, cB x_.Capture, cB x_.Once, cB x_.Stops, cB x_.StopsAll, cB x_.Prevents]]))), 9⟩ := by
  unfold clerestoryref4_Sent_fn2_j9 at h
  refine Sv.seq ?_
  refine Sv.region ?_
  refine un (a1 (v := (B v31)) rfl ?_)
  refine un (a1 rfl ?_)
  refine gjoin 3 (d := 76) (v := (B (v31 || x_.Stops))) (fun X hX => ?_) ?_
  · refine split2 (fun hc8 => ?_) (fun hc8 => ?_)
    · refine gs rfl rfl ?_
      refine gs rfl rfl ?_
      refine un (a1 (v := (B true)) rfl ?_)
      refine dnil ?_
      exact hX _ (.putEq (by rw [hc8]; rfl) (.skip _ _ (.skip _ _ (.putEq (by rw [hc8]) (.refl _)) rfl) rfl))
    · refine gt rfl (a1 (v := (.c (.ref 8 8 0 5))) rfl ?_)
      refine gt rfl (a1 (v := (B x_.Stops)) rfl ?_)
      refine un (a1 (v := (B x_.Stops)) rfl ?_)
      refine dnil ?_
      exact hX _ (.putEq (by rw [hc8]; rfl) (.skip _ _ (.skip _ _ (.putEq (by rw [hc8]) (.refl _)) rfl) rfl))
  refine un (a1 rfl ?_)
  refine gjoin 3 (d := 80) (v := (B ((v31 || x_.Stops) || x_.StopsAll))) (fun X hX => ?_) ?_
  · refine split2 (fun hc9 => ?_) (fun hc9 => ?_)
    · refine gs rfl rfl ?_
      refine gs rfl rfl ?_
      refine un (a1 (v := (B true)) rfl ?_)
      refine dnil ?_
      exact hX _ (.putEq (by rw [hc9]; rfl) (.skip _ _ (.skip _ _ (.putEq (by rw [hc9]) (.refl _)) rfl) rfl))
    · refine gt rfl (a1 (v := (.c (.ref 8 8 0 6))) rfl ?_)
      refine gt rfl (a1 (v := (B x_.StopsAll)) rfl ?_)
      refine un (a1 (v := (B x_.StopsAll)) rfl ?_)
      refine dnil ?_
      exact hX _ (.putEq (by rw [hc9]; rfl) (.skip _ _ (.skip _ _ (.putEq (by rw [hc9]) (.refl _)) rfl) rfl))
  refine un (a2n (h' := upd _ 0 (some (.cells 1 [[cB ((v31 || x_.Stops) || x_.StopsAll)]]))) (n' := 9) rfl rfl (fun h => by cases h) ?_)
  refine dnil ?_
  refine Sv.seq ?_
  refine Sv.region ?_
  refine un (a1 (v := (.c (.ref 8 8 0 6))) rfl ?_)
  refine un (a1 (v := (B x_.StopsAll)) rfl ?_)
  refine dnil ?_
  refine Sv.cond (b := x_.StopsAll) rfl (fun hc10 => ?_) (fun hc10 => ?_)
  · replace h := ifT hc10 h
    refine Sv.ret ?_
    replace h := Option.some.inj h
    subst h
    exact hr _ ⟨_, .refl _, _, rfl, ⟨upd (fun _ => none) 0 (some (.tup [])), (upd (upd (upd (upd (upd (upd (fun _ => none) 0 (some (.cells 1 [[cB ((v31 || x_.Stops) || x_.StopsAll)]]))) 1 (some (.cells 1 [[lstC zv75 6 3 v75.length]]))) 3 (some (.cells 1 [[cB (v81 || (x_.Prevents && v66))]]))) 4 (some (.cells 1 [[lstC zv95 7 1 v95.length]]))) 6 (lstB zv75 3 (v75.map e_THeard))) 7 (lstB zv95 1 (v95.map eI))), 8⟩, (.tup []), weak_canon2 [0, 1, 2, 3, 4, 5, 6, 7] [0, 1, 3, 4, 6, 7] (by decide) (by decide) (by decide) (.cons (by decide) (.cons (by decide) (.cons (by decide) (.cons (by decide) (.cons (by decide) (.cons (by decide) .nil)))))) (.cons rfl (avAs_tup .nil) .nil) (.row (by decide) rfl (fr_map fun _ => rfl) (.row (by decide) rfl (fr_map fun _ => rfl) (.box (by decide) rfl (blkAs_cells (.cons (lstC_ren rfl (by decide)) .nil)) (.box (by decide) rfl (blkAs_cells (.cons (.same rfl) .nil)) (.box (by decide) rfl (blkAs_cells (.cons (lstC_ren rfl (by decide)) .nil)) (.box (by decide) rfl (blkAs_cells (.cons (.same rfl) .nil)) .nil)))))), rfl, zv75, hzv75, zv95, hzv95, rfl, rfl, rfl⟩
  · replace h := ifF hc10 h
    refine Sv.skip ?_
    exact Sv.weak (weak_canon [0, 1, 2, 3, 4, 5, 6, 7] rfl (by decide) (by decide) (by decide) (.cons rfl (avAs_free rfl) (.cons rfl (avAs_free rfl) (.cons rfl (avAs_free rfl) (.cons rfl (.c (.ref rfl (by decide))) (.cons rfl (.c (.ref rfl (by decide))) (.cons rfl (.c (.ref rfl (by decide))) (.cons rfl (avAs_free rfl) (.cons rfl (avAs_free rfl) (.cons rfl (.c (.ref rfl (by decide))) (.cons rfl (avAs_free rfl) (.cons rfl (avAs_free rfl) (.cons rfl (avAs_free rfl) .nil)))))))))))) (.row (by decide) rfl (fr_map fun _ => rfl) (.row (by decide) rfl (fr_map fun _ => rfl) (.box (by decide) rfl (blkAs_cells (.cons (lstC_ren rfl (by decide)) .nil)) (.box (by decide) rfl (blkAs_cells (.cons (.same rfl) .nil)) (.box (by decide) rfl (blkAs_cells (.cons (lstC_ren rfl (by decide)) .nil)) (.box (by decide) rfl (blkAs_cells (.cons (.same rfl) .nil)) .nil))))))) (clerestoryref4_Sent_fn2_j8_ok hzv75 hzv95 h hself hK0 hr)
abbrev clerestoryref4_Sent_fn2_l0_I (k_ : Int) (down : Bool) (phase1 : Int) (v4 : (List Int)) (v60 : (List UInt8)) (v61 : Int) (v62 : Int) (v63 : Int) (v64 : (List UInt8)) (v65 : Bool) (v66 : Bool) (v5 : (List TListener)) (F_ : Nat → Bool → (List THeard) → Bool → (List Int) → Int → Option (Bool × (List THeard) × Bool × (List Int))) (o : (Bool × (List THeard) × Bool × (List Int))) : Nat → St → Prop := fun k s => ∃ (v31 : Bool), ∃ (v72 : (List THeard)), ∃ (v81 : Bool), ∃ (v92 : (List Int)), ∃ (v23 : Int), ∃ (zv72 : Bool), (zv72 = true → v72 = []) ∧ ∃ (zv92 : Bool), (zv92 = true → v92 = []) ∧ F_ k v31 v72 v81 v92 v23 = some o ∧ s = ⟨(upd (upd (upd (upd (upd (upd (upd (upd (upd (upd (upd (upd (fun _ => none) 0 (some (I k_))) 1 (some (B down))) 2 (some (I phase1))) 3 (some (.c (.ref 0 1 0 0)))) 4 (some (.c (.rop [.ro false 1 (v4.map eI)])))) 6 (some (.c (.rop [.str v60, cI v61, cI v62, cI v63, .str v64, cB v65, cB v66])))) 7 (some (.c (.ref 1 1 0 0)))) 8 (some (.c (.ref 3 1 0 0)))) 9 (some (.c (.ref 4 1 0 0)))) 21 (some (.c (.ro false 8 (v5.map e_TListener))))) 22 (some (I (v5.length : Int)))) 23 (some (I v23))), (upd (upd (upd (upd (upd (upd (fun _ => none) 0 (some (.cells 1 [[cB v31]]))) 1 (some (.cells 1 [[lstC zv72 6 3 v72.length]]))) 3 (some (.cells 1 [[cB v81]]))) 4 (some (.cells 1 [[lstC zv92 7 1 v92.length]]))) 6 (lstB zv72 3 (v72.map e_THeard))) 7 (lstB zv92 1 (v92.map eI))), 8⟩
noncomputable def clerestoryref4_Sent_fn2_l0 (v5 : (List TListener)) (v4 : (List Int)) (k_ : Int) (v60 : (List UInt8)) (down : Bool) (phase1 : Int) (v61 : Int) (v62 : Int) (v63 : Int) (v64 : (List UInt8)) (v65 : Bool) (v66 : Bool) (K0_ : Bool → (List THeard) → Bool → (List Int) → Option (Bool × (List THeard) × Bool × (List Int))) : Nat → Bool → (List THeard) → Bool → (List Int) → Int → Option (Bool × (List THeard) × Bool × (List Int))
  | 0, _, _, _, _, _ => none
  | k + 1, v31, v72, v81, v92, v23 =>
    if decide (v23 < (v5.length : Int)) then
      (at? v5 v23).bind fun x_ =>
      (at? v4 k_).bind fun x_1 =>
      if (((!decide (x_.Node = x_1)) || (!decide (x_.f_Type = v60))) || (!((x_.Capture == down) && true))) then
        clerestoryref4_Sent_fn2_j8 v23 k_ down phase1 v4 v60 v61 v62 v63 v64 v65 v66 v5 (clerestoryref4_Sent_fn2_l0 v5 v4 k_ v60 down phase1 v61 v62 v63 v64 v65 v66 K0_ k) K0_ v31 v72 v81 v92
      else
        (app? 24 v72 [(⟨x_.ID, x_.Node, phase1⟩ : THeard)]).bind fun r_ =>
        if x_.Once then
          (app? 8 v92 [x_.ID]).bind fun r_1 =>
          clerestoryref4_Sent_fn2_j9 x_ v31 v81 v66 v23 k_ down phase1 v4 v60 v61 v62 v63 v64 v65 v5 (clerestoryref4_Sent_fn2_l0 v5 v4 k_ v60 down phase1 v61 v62 v63 v64 v65 v66 K0_ k) K0_ r_ r_1
        else
          clerestoryref4_Sent_fn2_j9 x_ v31 v81 v66 v23 k_ down phase1 v4 v60 v61 v62 v63 v64 v65 v5 (clerestoryref4_Sent_fn2_l0 v5 v4 k_ v60 down phase1 v61 v62 v63 v64 v65 v66 K0_ k) K0_ r_ v92
    else
      K0_ v31 v72 v81 v92
theorem clerestoryref4_Sent_fn2_l0_ok {mL : Int} {Q : AExit → St → Prop} {v5 : (List TListener)} {v4 : (List Int)} {k_ : Int} {v60 : (List UInt8)} {down : Bool} {phase1 : Int} {v61 : Int} {v62 : Int} {v63 : Int} {v64 : (List UInt8)} {v65 : Bool} {v66 : Bool} {K0_ : Bool → (List THeard) → Bool → (List Int) → Option (Bool × (List THeard) × Bool × (List Int))} {k : Nat} {v31 : Bool} {v72 : (List THeard)} {v81 : Bool} {v92 : (List Int)} {v23 : Int} {zv72 : Bool} (hzv72 : zv72 = true → v72 = []) {zv92 : Bool} (hzv92 : zv92 = true → v92 = []) {o : (Bool × (List THeard) × Bool × (List Int))} (h : clerestoryref4_Sent_fn2_l0 v5 v4 k_ v60 down phase1 v61 v62 v63 v64 v65 v66 K0_ k v31 v72 v81 v92 v23 = some o)
    (hK0 : clerestoryref4_Sent_fn2_l0_E0 K0_ o (Q (.exit 0)))
    (hr : ∀ s, Ends a25.results 6 (clerestoryref4_Sent_fn2_post o) .ret s → Q .ret s) :
    Sv Tryd.prog (GG mL) 6 (.loop a25_c3) Q ⟨(upd (upd (upd (upd (upd (upd (upd (upd (upd (upd (upd (upd (fun _ => none) 0 (some (I k_))) 1 (some (B down))) 2 (some (I phase1))) 3 (some (.c (.ref 0 1 0 0)))) 4 (some (.c (.rop [.ro false 1 (v4.map eI)])))) 6 (some (.c (.rop [.str v60, cI v61, cI v62, cI v63, .str v64, cB v65, cB v66])))) 7 (some (.c (.ref 1 1 0 0)))) 8 (some (.c (.ref 3 1 0 0)))) 9 (some (.c (.ref 4 1 0 0)))) 21 (some (.c (.ro false 8 (v5.map e_TListener))))) 22 (some (I (v5.length : Int)))) 23 (some (I v23))), (upd (upd (upd (upd (upd (upd (fun _ => none) 0 (some (.cells 1 [[cB v31]]))) 1 (some (.cells 1 [[lstC zv72 6 3 v72.length]]))) 3 (some (.cells 1 [[cB v81]]))) 4 (some (.cells 1 [[lstC zv92 7 1 v92.length]]))) 6 (lstB zv72 3 (v72.map e_THeard))) 7 (lstB zv92 1 (v92.map eI))), 8⟩ := by
  refine Sv.loop (I := clerestoryref4_Sent_fn2_l0_I k_ down phase1 v4 v60 v61 v62 v63 v64 v65 v66 v5 (clerestoryref4_Sent_fn2_l0 v5 v4 k_ v60 down phase1 v61 v62 v63 v64 v65 v66 K0_) o) (fun k s hI => ?_) ⟨v31, v72, v81, v92, v23, zv72, hzv72, zv92, hzv92, h, rfl⟩
  clear h
  clear hzv92 hzv72 zv92 zv72 v23 v92 v81 v72 v31
  obtain ⟨v31, v72, v81, v92, v23, zv72, hzv72, zv92, hzv92, h, rfl⟩ := hI
  cases k with
  | zero => cases h
  | succ k =>
  rw [clerestoryref4_Sent_fn2_l0] at h
  have hself : clerestoryref4_Sent_fn2_l0_H k_ down phase1 v4 v60 v61 v62 v63 v64 v65 v66 v5 (clerestoryref4_Sent_fn2_l0 v5 v4 k_ v60 down phase1 v61 v62 v63 v64 v65 v66 K0_ k) o (rnd 6 (clerestoryref4_Sent_fn2_l0_I k_ down phase1 v4 v60 v61 v62 v63 v64 v65 v66 v5 (clerestoryref4_Sent_fn2_l0 v5 v4 k_ v60 down phase1 v61 v62 v63 v64 v65 v66 K0_) o) k Q) := fun v31 v72 v81 v92 v23 zv72 hzv72 zv92 hzv92 h s hw => ⟨_, k, hw, Nat.lt_succ_self k, v31, v72, v81, v92, v23, zv72, hzv72, zv92, hzv92, h, rfl⟩
  refine Sv.seq ?_
  refine Sv.region ?_
  refine un (a1 (v := (B (decide (v23 < (v5.length : Int))))) rfl ?_)
  refine dnil ?_
  refine Sv.seq ?_
  refine Sv.cond (b := decide (v23 < (v5.length : Int))) rfl (fun hc2 => ?_) (fun hc2 => ?_)
  · replace h := ifT hc2 h
    refine Sv.skip ?_
    refine Sv.seq ?_
    refine Sv.block ?_
    refine Sv.seq ?_
    refine Sv.region ?_
    obtain ⟨x_, hx1, h⟩ := bnd h
    refine un (a1 (v := (.c (.rop [cI x_.ID, cI x_.Node, .str x_.f_Type, cB x_.Capture, cB x_.Once, cB x_.Stops, cB x_.StopsAll, cB x_.Prevents]))) (s_iaddr (e := e_TListener) (xs := v5) rfl rfl hx1) ?_)
    refine un (a1 (v := (.agg [cI x_.ID, cI x_.Node, .str x_.f_Type, cB x_.Capture, cB x_.Once, cB x_.Stops, cB x_.StopsAll, cB x_.Prevents])) rfl ?_)
    refine un (a2v (v := (.c (.ref 8 8 0 0))) (h' := upd _ 8 (some (.cells 8 [[cI 0, cI 0, .str [], cB false, cB false, cB false, cB false, cB false]]))) (n' := 9) rfl rfl (fun h => by cases h) ?_)
    refine un (a2n (h' := upd _ 8 (some (.cells 8 [[cI x_.ID, cI x_.Node, .str x_.f_Type, cB x_.Capture, cB x_.Once, cB x_.Stops, cB x_.StopsAll, cB x_.Prevents]]))) (n' := 9) rfl rfl (fun h => by cases h) ?_)
    refine dnil ?_
    refine Sv.seq ?_
    refine Sv.seq ?_
    refine Sv.drawn ?_
    refine un (a1 (v := (.c (.ref 8 8 0 1))) rfl ?_)
    refine un (a1 (v := (I x_.Node)) rfl ?_)
    refine un (a1 (v := (.c (.ro false 1 (v4.map eI)))) rfl ?_)
    refine un (a1 rfl ?_)
    obtain ⟨x_1, hx2, h⟩ := bnd h
    refine un (a1 (v := (.c (.rop [cI x_1]))) (s_iaddr (e := eI) (xs := v4) rfl rfl hx2) ?_)
    refine un (a1 (v := (I x_1)) rfl ?_)
    refine un (a1 (v := (B (!decide (x_.Node = x_1)))) rfl ?_)
    refine un (a1 rfl ?_)
    refine gjoin 6 (d := 40) (v := (B ((!decide (x_.Node = x_1)) || (!decide (x_.f_Type = v60))))) (fun X hX => ?_) ?_
    · refine split2 (fun hc3 => ?_) (fun hc3 => ?_)
      · refine gs rfl rfl ?_
        refine gs rfl rfl ?_
        refine gs rfl rfl ?_
        refine gs rfl rfl ?_
        refine gs rfl rfl ?_
        refine un (a1 (v := (B true)) rfl ?_)
        refine dnil ?_
        exact hX _ (.putEq (by rw [hc3]; rfl) (.skip _ _ (.skip _ _ (.skip _ _ (.skip _ _ (.skip _ _ (.putEq (by rw [hc3]) (.refl _)) rfl) rfl) rfl) rfl) rfl))
      · refine gt rfl (a1 (v := (.c (.ref 8 8 0 2))) rfl ?_)
        refine gt rfl (a1 (v := (S x_.f_Type)) rfl ?_)
        refine gt rfl (a1 (v := (.c (.rop [.str v60, cI v61, cI v62, cI v63, .str v64, cB v65, cB v66]))) rfl ?_)
        refine gt rfl (a1 (v := (S v60)) rfl ?_)
        refine gt rfl (a1 (v := (B (!decide (x_.f_Type = v60)))) rfl ?_)
        refine un (a1 (v := (B (!decide (x_.f_Type = v60)))) rfl ?_)
        refine dnil ?_
        exact hX _ (.putEq (by rw [hc3]; rfl) (.skip _ _ (.skip _ _ (.skip _ _ (.skip _ _ (.skip _ _ (.putEq (by rw [hc3]) (.refl _)) rfl) rfl) rfl) rfl) rfl))
    refine un (a1 rfl ?_)
    refine gjoin 5 (d := 46) (v := (B (((!decide (x_.Node = x_1)) || (!decide (x_.f_Type = v60))) || (!((x_.Capture == down) && true))))) (fun X hX => ?_) ?_
    · refine split2 (fun hc4 => ?_) (fun hc4 => ?_)
      · refine gs rfl rfl ?_
        refine gs rfl rfl ?_
        refine gs rfl rfl ?_
        refine gs rfl rfl ?_
        refine un (a1 (v := (B true)) rfl ?_)
        refine dnil ?_
        exact hX _ (.putEq (by rw [hc4]; rfl) (.skip _ _ (.skip _ _ (.skip _ _ (.skip _ _ (.putEq (by rw [hc4]) (.refl _)) rfl) rfl) rfl) rfl))
      · refine gt rfl (a1 (v := (.c (.ref 8 8 0 3))) rfl ?_)
        refine gt rfl (a1 (v := (B x_.Capture)) rfl ?_)
        refine gt rfl (a1 rfl ?_)
        refine gt rfl (a1 (v := (B (!((x_.Capture == down) && true)))) rfl ?_)
        refine un (a1 (v := (B (!((x_.Capture == down) && true)))) rfl ?_)
        refine dnil ?_
        exact hX _ (.putEq (by rw [hc4]; rfl) (.skip _ _ (.skip _ _ (.skip _ _ (.skip _ _ (.putEq (by rw [hc4]) (.refl _)) rfl) rfl) rfl) rfl))
    refine dnil ?_
    refine Sv.cond (b := (((!decide (x_.Node = x_1)) || (!decide (x_.f_Type = v60))) || (!((x_.Capture == down) && true)))) rfl (fun hc5 => ?_) (fun hc5 => ?_)
    · replace h := ifT hc5 h
      refine Sv.exit ?_
      exact Sv.weak (weak_canon [0, 1, 2, 3, 4, 5, 6, 7] rfl (by decide) (by decide) (by decide) (.cons rfl (avAs_free rfl) (.cons rfl (avAs_free rfl) (.cons rfl (avAs_free rfl) (.cons rfl (.c (.ref rfl (by decide))) (.cons rfl (.c (.ref rfl (by decide))) (.cons rfl (.c (.ref rfl (by decide))) (.cons rfl (avAs_free rfl) (.cons rfl (avAs_free rfl) (.cons rfl (.c (.ref rfl (by decide))) (.cons rfl (avAs_free rfl) (.cons rfl (avAs_free rfl) (.cons rfl (avAs_free rfl) .nil)))))))))))) (.row (by decide) rfl (fr_map fun _ => rfl) (.row (by decide) rfl (fr_map fun _ => rfl) (.box (by decide) rfl (blkAs_cells (.cons (lstC_ren rfl (by decide)) .nil)) (.box (by decide) rfl (blkAs_cells (.cons (.same rfl) .nil)) (.box (by decide) rfl (blkAs_cells (.cons (lstC_ren rfl (by decide)) .nil)) (.box (by decide) rfl (blkAs_cells (.cons (.same rfl) .nil)) .nil))))))) (clerestoryref4_Sent_fn2_j8_ok hzv72 hzv92 h hself hK0 hr)
    · replace h := ifF hc5 h
      refine Sv.skip ?_
      refine Sv.seq ?_
      refine Sv.region ?_
      refine un (a1 (v := (lstV zv72 6 3 v72.length)) rfl ?_)
      refine un (a1 (v := (.c (.ref 8 8 0 0))) rfl ?_)
      refine un (a1 (v := (I x_.ID)) rfl ?_)
      refine un (a1 (v := (.c (.ref 8 8 0 1))) rfl ?_)
      refine un (a1 (v := (I x_.Node)) rfl ?_)
      refine un (a1 rfl ?_)
      refine un (a1 (v := (.agg [cI x_.ID, cI x_.Node, cI phase1])) rfl ?_)
      refine un (a2v (v := (lstV false 9 3 [(⟨x_.ID, x_.Node, phase1⟩ : THeard)].length)) (h' := upd _ 9 (lstB false 3 ([(⟨x_.ID, x_.Node, phase1⟩ : THeard)].map e_THeard))) (n' := 10) rfl rfl (fun h => by cases h) ?_)
      obtain ⟨r_, hr1, h⟩ := bnd h
      have hz1 : (zv72 && [(⟨x_.ID, x_.Node, phase1⟩ : THeard)].isEmpty) = true → r_ = [] := app_nil (z := zv72) (ys := [(⟨x_.ID, x_.Node, phase1⟩ : THeard)]) hzv72 hr1
      refine un (a2v rfl (s_app (xs := v72) (ys := [(⟨x_.ID, x_.Node, phase1⟩ : THeard)]) (e := e_THeard) (z := zv72) (b := 6) rfl rfl hzv72 rfl rfl (slc_lst rfl (List.length_map _).symm (map_nil_of (fun h => by cases h))) hr1) (fun h => by cases h) ?_)
      refine un (a2n (h' := upd _ 1 (some (.cells 1 [[lstC (zv72 && [(⟨x_.ID, x_.Node, phase1⟩ : THeard)].isEmpty) 10 3 r_.length]]))) (n' := 11) rfl rfl (fun h => by cases h) ?_)
      refine dnil ?_
      refine Sv.seq ?_
      refine Sv.region ?_
      refine un (a1 (v := (B v81)) rfl ?_)
      refine un (a1 rfl ?_)
      refine gjoin 7 (d := 64) (v := (B (v81 || (x_.Prevents && v66)))) (fun X hX => ?_) ?_
      · refine split2 (fun hc7 => ?_) (fun hc7 => ?_)
        · refine gs rfl rfl ?_
          refine gs rfl rfl ?_
          refine gs rfl rfl ?_
          refine gu rfl ?_
          refine gu rfl ?_
          refine gs rfl rfl ?_
          refine un (a1 (v := (B true)) rfl ?_)
          refine dnil ?_
          exact hX _ (.putEq (by rw [hc7]; rfl) (.skip _ _ (.skip _ _ (.skip _ _ (.skip _ _ (.skip _ _ (.skip _ _ (.putEq (by rw [hc7]) (.refl _)) rfl) rfl) rfl) rfl) rfl) rfl))
        · refine gt rfl (a1 (v := (.c (.ref 8 8 0 7))) rfl ?_)
          refine gt rfl (a1 (v := (B x_.Prevents)) rfl ?_)
          refine gt rfl (a1 rfl ?_)
          refine gjoin 3 (d := 63) (v := (B (x_.Prevents && v66))) (fun X hX => ?_) ?_
          · refine split2 (fun hc6 => ?_) (fun hc6 => ?_)
            · refine gt rfl (a1 (v := (.c (.rop [cB v66]))) rfl ?_)
              refine gt rfl (a1 (v := (B v66)) rfl ?_)
              refine gt rfl (a1 (v := (B v66)) rfl ?_)
              refine dnil ?_
              exact hX _ (.putEq (by rw [hc6]; rfl) (.skip _ _ (.skip _ _ (.putEq (by rw [hc6]) (.refl _)) rfl) rfl))
            · refine gs rfl rfl ?_
              refine gs rfl rfl ?_
              refine gt rfl (a1 (v := (B false)) rfl ?_)
              refine dnil ?_
              exact hX _ (.putEq (by rw [hc6]; rfl) (.skip _ _ (.skip _ _ (.putEq (by rw [hc6]) (.refl _)) rfl) rfl))
          refine un (a1 (v := (B (x_.Prevents && v66))) rfl ?_)
          refine dnil ?_
          exact hX _ (.putEq (by rw [hc7]; rfl) (.skip _ _ (.skip _ _ (.skip _ _ (.skip _ _ (.putEq (by rw [hc7]) (.refl _)) rfl) rfl) rfl) rfl))
      refine un (a2n (h' := upd _ 3 (some (.cells 1 [[cB (v81 || (x_.Prevents && v66))]]))) (n' := 11) rfl rfl (fun h => by cases h) ?_)
      refine dnil ?_
      refine Sv.seq ?_
      refine Sv.seq ?_
      refine Sv.region ?_
      refine un (a1 (v := (.c (.ref 8 8 0 4))) rfl ?_)
      refine un (a1 (v := (B x_.Once)) rfl ?_)
      refine dnil ?_
      refine Sv.cond (b := x_.Once) rfl (fun hc11 => ?_) (fun hc11 => ?_)
      · replace h := ifT hc11 h
        refine Sv.region ?_
        refine un (a1 (v := (lstV zv92 7 1 v92.length)) rfl ?_)
        refine un (a1 (v := (.c (.ref 8 8 0 0))) rfl ?_)
        refine un (a1 (v := (I x_.ID)) rfl ?_)
        refine un (a2v (v := (lstV false 11 1 [x_.ID].length)) (h' := upd _ 11 (lstB false 1 ([x_.ID].map eI))) (n' := 12) rfl rfl (fun h => by cases h) ?_)
        obtain ⟨r_1, hr2, h⟩ := bnd h
        have hz2 : (zv92 && [x_.ID].isEmpty) = true → r_1 = [] := app_nil (z := zv92) (ys := [x_.ID]) hzv92 hr2
        refine un (a2v rfl (s_app (xs := v92) (ys := [x_.ID]) (e := eI) (z := zv92) (b := 7) rfl rfl hzv92 rfl rfl (slc_lst rfl (List.length_map _).symm (map_nil_of (fun h => by cases h))) hr2) (fun h => by cases h) ?_)
        refine un (a2n (h' := upd _ 4 (some (.cells 1 [[lstC (zv92 && [x_.ID].isEmpty) 12 1 r_1.length]]))) (n' := 13) rfl rfl (fun h => by cases h) ?_)
        refine dnil ?_
        exact Sv.weak (weak_canon [0, 1, 2, 3, 4, 5, 10, 12, 8] rfl (by decide) (by decide) (by decide) (.cons rfl (avAs_free rfl) (.cons rfl (avAs_free rfl) (.cons rfl (avAs_free rfl) (.cons rfl (.c (.ref rfl (by decide))) (.cons rfl (.c (.ref rfl (by decide))) (.cons rfl (.c (.ref rfl (by decide))) (.cons rfl (.c (.ref rfl (by decide))) (.cons rfl (avAs_free rfl) (.cons rfl (avAs_free rfl) (.cons rfl (.c (.ref rfl (by decide))) (.cons rfl (avAs_free rfl) (.cons rfl (avAs_free rfl) (.cons rfl (avAs_free rfl) .nil))))))))))))) (.box (by decide) rfl (blkAs_cells (.cons (.same rfl) (.cons (.same rfl) (.cons (.same rfl) (.cons (.same rfl) (.cons (.same rfl) (.cons (.same rfl) (.cons (.same rfl) (.cons (.same rfl) .nil))))))))) (.row (by decide) rfl (fr_map fun _ => rfl) (.row (by decide) rfl (fr_map fun _ => rfl) (.box (by decide) rfl (blkAs_cells (.cons (lstC_ren rfl (by decide)) .nil)) (.box (by decide) rfl (blkAs_cells (.cons (.same rfl) .nil)) (.box (by decide) rfl (blkAs_cells (.cons (lstC_ren rfl (by decide)) .nil)) (.box (by decide) rfl (blkAs_cells (.cons (.same rfl) .nil)) .nil)))))))) (clerestoryref4_Sent_fn2_j9_ok hz1 hz2 h hself hK0 hr)
      · replace h := ifF hc11 h
        refine Sv.skip ?_
        exact Sv.weak (weak_canon [0, 1, 2, 3, 4, 5, 10, 7, 8] rfl (by decide) (by decide) (by decide) (.cons rfl (avAs_free rfl) (.cons rfl (avAs_free rfl) (.cons rfl (avAs_free rfl) (.cons rfl (.c (.ref rfl (by decide))) (.cons rfl (.c (.ref rfl (by decide))) (.cons rfl (.c (.ref rfl (by decide))) (.cons rfl (.c (.ref rfl (by decide))) (.cons rfl (avAs_free rfl) (.cons rfl (avAs_free rfl) (.cons rfl (.c (.ref rfl (by decide))) (.cons rfl (avAs_free rfl) (.cons rfl (avAs_free rfl) (.cons rfl (avAs_free rfl) .nil))))))))))))) (.box (by decide) rfl (blkAs_cells (.cons (.same rfl) (.cons (.same rfl) (.cons (.same rfl) (.cons (.same rfl) (.cons (.same rfl) (.cons (.same rfl) (.cons (.same rfl) (.cons (.same rfl) .nil))))))))) (.row (by decide) rfl (fr_map fun _ => rfl) (.row (by decide) rfl (fr_map fun _ => rfl) (.box (by decide) rfl (blkAs_cells (.cons (lstC_ren rfl (by decide)) .nil)) (.box (by decide) rfl (blkAs_cells (.cons (.same rfl) .nil)) (.box (by decide) rfl (blkAs_cells (.cons (lstC_ren rfl (by decide)) .nil)) (.box (by decide) rfl (blkAs_cells (.cons (.same rfl) .nil)) .nil)))))))) (clerestoryref4_Sent_fn2_j9_ok hz1 hzv92 h hself hK0 hr)
  · replace h := ifF hc2 h
    refine Sv.exit ?_
    exact hK0 v31 v72 v81 v92 zv72 hzv72 zv92 hzv92 h _ (weak_canon [0, 1, 2, 3, 4, 5, 6, 7] rfl (by decide) (by decide) (by decide) (.cons rfl (.c (.ref rfl (by decide))) (.cons rfl (.c (.ref rfl (by decide))) (.cons rfl (.c (.ref rfl (by decide))) (.cons rfl (.c (.ref rfl (by decide))) .nil)))) (.row (by decide) rfl (fr_map fun _ => rfl) (.row (by decide) rfl (fr_map fun _ => rfl) (.box (by decide) rfl (blkAs_cells (.cons (lstC_ren rfl (by decide)) .nil)) (.box (by decide) rfl (blkAs_cells (.cons (.same rfl) .nil)) (.box (by decide) rfl (blkAs_cells (.cons (lstC_ren rfl (by decide)) .nil)) (.box (by decide) rfl (blkAs_cells (.cons (.same rfl) .nil)) .nil)))))))
noncomputable def clerestoryref4_Sent_fn2_j1 (v5 : (List TListener)) (v4 : (List Int)) (k_ : Int) (v60 : (List UInt8)) (down : Bool) (v61 : Int) (v62 : Int) (v63 : Int) (v64 : (List UInt8)) (v65 : Bool) (v66 : Bool) (v3 : Bool) (v8 : Bool) (phase1 : Int) (v71 : (List THeard)) (v91 : (List Int)) : Option (Bool × (List THeard) × Bool × (List Int)) :=
  lim fun kk => clerestoryref4_Sent_fn2_l0 v5 v4 k_ v60 down phase1 v61 v62 v63 v64 v65 v66 (fun (v32 : Bool) (v73 : (List THeard)) (v82 : Bool) (v93 : (List Int)) => 
      some (v32, v73, v82, v93)) kk v3 v71 v8 v91 0
theorem clerestoryref4_Sent_fn2_j1_ok {mL : Int} {v5 : (List TListener)} {v4 : (List Int)} {k_ : Int} {v60 : (List UInt8)} {down : Bool} {v61 : Int} {v62 : Int} {v63 : Int} {v64 : (List UInt8)} {v65 : Bool} {v66 : Bool} {v3 : Bool} {v8 : Bool} {phase1 : Int} {v71 : (List THeard)} {v91 : (List Int)} {zv71 : Bool} (hzv71 : zv71 = true → v71 = []) {zv91 : Bool} (hzv91 : zv91 = true → v91 = []) {o : (Bool × (List THeard) × Bool × (List Int))} (h : clerestoryref4_Sent_fn2_j1 v5 v4 k_ v60 down v61 v62 v63 v64 v65 v66 v3 v8 phase1 v71 v91 = some o) :
    Sv Tryd.prog (GG mL) 6 a25_c0 (Ends a25.results 6 (clerestoryref4_Sent_fn2_post o)) ⟨(upd (upd (upd (upd (upd (upd (upd (upd (upd (upd (fun _ => none) 0 (some (I k_))) 1 (some (B down))) 2 (some (I phase1))) 3 (some (.c (.ref 0 1 0 0)))) 4 (some (.c (.rop [.ro false 1 (v4.map eI)])))) 5 (some (.c (.rop [.ro false 8 (v5.map e_TListener)])))) 6 (some (.c (.rop [.str v60, cI v61, cI v62, cI v63, .str v64, cB v65, cB v66])))) 7 (some (.c (.ref 1 1 0 0)))) 8 (some (.c (.ref 3 1 0 0)))) 9 (some (.c (.ref 4 1 0 0)))), (upd (upd (upd (upd (upd (upd (fun _ => none) 0 (some (.cells 1 [[cB v3]]))) 1 (some (.cells 1 [[lstC zv71 2 3 v71.length]]))) 2 (lstB zv71 3 (v71.map e_THeard))) 3 (some (.cells 1 [[cB v8]]))) 4 (some (.cells 1 [[lstC zv91 5 1 v91.length]]))) 5 (lstB zv91 1 (v91.map eI))), 6⟩ := by
  unfold clerestoryref4_Sent_fn2_j1 at h
  refine Sv.seq ?_
  refine Sv.region ?_
  refine un (a1 (v := (.c (.ro false 8 (v5.map e_TListener)))) rfl ?_)
  refine un (a1 (v := (I (v5.length : Int))) (s_len (e := e_TListener) (xs := v5) rfl) ?_)
  refine un (a1 rfl ?_)
  refine dnil ?_
  refine Sv.block ?_
  obtain ⟨kk, h⟩ := lim_some h
  refine Sv.weak (weak_canon2 [0, 1, 2, 3, 4, 5, 2, 5] [0, 1, 3, 4, 6, 7] (by decide) (by decide) (by decide) (.cons (by decide) (.cons (by decide) (.cons (by decide) (.cons (by decide) (.cons (by decide) (.cons (by decide) .nil)))))) (.cons rfl (avAs_free rfl) (.cons rfl (avAs_free rfl) (.cons rfl (avAs_free rfl) (.cons rfl (.c (.ref rfl (by decide))) (.cons rfl (.c (.ref rfl (by decide))) (.cons rfl (.c (.ref rfl (by decide))) (.cons rfl (avAs_free rfl) (.cons rfl (avAs_free rfl) (.cons rfl (.c (.ref rfl (by decide))) (.cons rfl (avAs_free rfl) (.cons rfl (avAs_free rfl) (.cons rfl (avAs_free rfl) .nil)))))))))))) (.row (by decide) rfl (fr_map fun _ => rfl) (.row (by decide) rfl (fr_map fun _ => rfl) (.box (by decide) rfl (blkAs_cells (.cons (lstC_ren rfl (by decide)) .nil)) (.box (by decide) rfl (blkAs_cells (.cons (.same rfl) .nil)) (.box (by decide) rfl (blkAs_cells (.cons (lstC_ren rfl (by decide)) .nil)) (.box (by decide) rfl (blkAs_cells (.cons (.same rfl) .nil)) .nil))))))) (clerestoryref4_Sent_fn2_l0_ok hzv71 hzv91 h ?_ (fun s hs => hs))
  · intro v32 v73 v82 v93 zv73 hzv73 zv93 hzv93 h _ hw1
    replace h := Option.some.inj h
    subst h
    exact ⟨_, hw1, _, rfl, ⟨upd (fun _ => none) 0 (some (.tup [])), (upd (upd (upd (upd (upd (upd (fun _ => none) 0 (some (.cells 1 [[cB v32]]))) 1 (some (.cells 1 [[lstC zv73 6 3 v73.length]]))) 3 (some (.cells 1 [[cB v82]]))) 4 (some (.cells 1 [[lstC zv93 7 1 v93.length]]))) 6 (lstB zv73 3 (v73.map e_THeard))) 7 (lstB zv93 1 (v93.map eI))), 8⟩, (.tup []), weak_canon2 [0, 1, 2, 3, 4, 5, 6, 7] [0, 1, 3, 4, 6, 7] (by decide) (by decide) (by decide) (.cons (by decide) (.cons (by decide) (.cons (by decide) (.cons (by decide) (.cons (by decide) (.cons (by decide) .nil)))))) (.cons rfl (avAs_tup .nil) .nil) (.row (by decide) rfl (fr_map fun _ => rfl) (.row (by decide) rfl (fr_map fun _ => rfl) (.box (by decide) rfl (blkAs_cells (.cons (lstC_ren rfl (by decide)) .nil)) (.box (by decide) rfl (blkAs_cells (.cons (.same rfl) .nil)) (.box (by decide) rfl (blkAs_cells (.cons (lstC_ren rfl (by decide)) .nil)) (.box (by decide) rfl (blkAs_cells (.cons (.same rfl) .nil)) .nil)))))), rfl, zv73, hzv73, zv93, hzv93, rfl, rfl, rfl⟩
/-- clerestory/clerestoryref4.Sent$2 -/
noncomputable def clerestoryref4_Sent_fn2 (k_ : Int) (down : Bool) (phase : Int) (v3 : Bool) (v4 : (List Int)) (v5 : (List TListener)) (v60 : (List UInt8)) (v61 : Int) (v62 : Int) (v63 : Int) (v64 : (List UInt8)) (v65 : Bool) (v66 : Bool) (v7 : (List THeard)) (v8 : Bool) (v9 : (List Int)) : Option (Bool × (List THeard) × Bool × (List Int)) :=
  if v3 then
    some (v3, v7, v8, v9)
  else
    if decide (k_ = (wi ((v4.length : Int) - 1))) then
      clerestoryref4_Sent_fn2_j1 v5 v4 k_ v60 down v61 v62 v63 v64 v65 v66 v3 v8 2 v7 v9
    else
      clerestoryref4_Sent_fn2_j1 v5 v4 k_ v60 down v61 v62 v63 v64 v65 v66 v3 v8 phase v7 v9
theorem clerestoryref4_Sent_fn2_ok {mL : Int} {k_ : Int} {down : Bool} {phase : Int} {v3 : Bool} {v4 : (List Int)} {v5 : (List TListener)} {v60 : (List UInt8)} {v61 : Int} {v62 : Int} {v63 : Int} {v64 : (List UInt8)} {v65 : Bool} {v66 : Bool} {v7 : (List THeard)} {v8 : Bool} {v9 : (List Int)} {zv7 : Bool} (hzv7 : zv7 = true → v7 = []) {zv9 : Bool} (hzv9 : zv9 = true → v9 = []) {r : (Bool × (List THeard) × Bool × (List Int))} (h : clerestoryref4_Sent_fn2 k_ down phase v3 v4 v5 v60 v61 v62 v63 v64 v65 v66 v7 v8 v9 = some r) : ACalls Tryd.prog (GG mL) 25 [(I k_), (B down), (I phase), (.c (.ref 0 1 0 0)), (.c (.rop [.ro false 1 (v4.map eI)])), (.c (.rop [.ro false 8 (v5.map e_TListener)])), (.c (.rop [.str v60, cI v61, cI v62, cI v63, .str v64, cB v65, cB v66])), (.c (.ref 1 1 0 0)), (.c (.ref 3 1 0 0)), (.c (.ref 4 1 0 0))] (upd (upd (upd (upd (upd (upd (fun _ => none) 0 (some (.cells 1 [[cB v3]]))) 1 (some (.cells 1 [[lstC zv7 2 3 v7.length]]))) 2 (lstB zv7 3 (v7.map e_THeard))) 3 (some (.cells 1 [[cB v8]]))) 4 (some (.cells 1 [[lstC zv9 5 1 v9.length]]))) 5 (lstB zv9 1 (v9.map eI))) 6 (clerestoryref4_Sent_fn2_post r) := by
  refine acalls_of_sv hmix c25 (R := clerestoryref4_Sent_fn2_post r) ?_
  unfold clerestoryref4_Sent_fn2 at h
  refine Sv.seq ?_
  refine Sv.seq ?_
  refine Sv.region ?_
  refine un (a1 (v := (B v3)) rfl ?_)
  refine dnil ?_
  refine Sv.cond (b := v3) rfl (fun hc1 => ?_) (fun hc1 => ?_)
  · replace h := ifT hc1 h
    refine Sv.ret ?_
    replace h := Option.some.inj h
    subst h
    exact ⟨_, .refl _, _, rfl, ⟨upd (fun _ => none) 0 (some (.tup [])), (upd (upd (upd (upd (upd (upd (fun _ => none) 0 (some (.cells 1 [[cB v3]]))) 1 (some (.cells 1 [[lstC zv7 6 3 v7.length]]))) 3 (some (.cells 1 [[cB v8]]))) 4 (some (.cells 1 [[lstC zv9 7 1 v9.length]]))) 6 (lstB zv7 3 (v7.map e_THeard))) 7 (lstB zv9 1 (v9.map eI))), 8⟩, (.tup []), weak_canon2 [0, 1, 2, 3, 4, 5, 2, 5] [0, 1, 3, 4, 6, 7] (by decide) (by decide) (by decide) (.cons (by decide) (.cons (by decide) (.cons (by decide) (.cons (by decide) (.cons (by decide) (.cons (by decide) .nil)))))) (.cons rfl (avAs_tup .nil) .nil) (.row (by decide) rfl (fr_map fun _ => rfl) (.row (by decide) rfl (fr_map fun _ => rfl) (.box (by decide) rfl (blkAs_cells (.cons (lstC_ren rfl (by decide)) .nil)) (.box (by decide) rfl (blkAs_cells (.cons (.same rfl) .nil)) (.box (by decide) rfl (blkAs_cells (.cons (lstC_ren rfl (by decide)) .nil)) (.box (by decide) rfl (blkAs_cells (.cons (.same rfl) .nil)) .nil)))))), rfl, zv7, hzv7, zv9, hzv9, rfl, rfl, rfl⟩
  · replace h := ifF hc1 h
    refine Sv.skip ?_
    refine Sv.seq ?_
    refine Sv.seq ?_
    refine Sv.region ?_
    refine un (a1 rfl ?_)
    refine un (a1 (v := (.c (.ro false 1 (v4.map eI)))) rfl ?_)
    refine un (a1 (v := (I (v4.length : Int))) (s_len (e := eI) (xs := v4) rfl) ?_)
    refine un (a1 (v := (I (wi ((v4.length : Int) - 1)))) rfl ?_)
    refine un (a1 (v := (B (decide (k_ = (wi ((v4.length : Int) - 1)))))) rfl ?_)
    refine dnil ?_
    refine Sv.cond (b := decide (k_ = (wi ((v4.length : Int) - 1)))) rfl (fun hc12 => ?_) (fun hc12 => ?_)
    · replace h := ifT hc12 h
      refine Sv.region ?_
      refine un (a1 rfl ?_)
      refine dnil ?_
      exact Sv.weak (weak_canon [0, 1, 2, 3, 4, 5] rfl (by decide) (by decide) (by decide) (.cons rfl (.c (.ref rfl (by decide))) (.cons rfl (.c (.ref rfl (by decide))) (.cons rfl (.c (.ref rfl (by decide))) (.cons rfl (avAs_free rfl) (.cons rfl (avAs_free rfl) (.cons rfl (avAs_free rfl) (.cons rfl (.c (.ref rfl (by decide))) (.cons rfl (avAs_free rfl) (.cons rfl (avAs_free rfl) (.cons rfl (avAs_free rfl) .nil)))))))))) (.row (by decide) rfl (fr_map fun _ => rfl) (.box (by decide) rfl (blkAs_cells (.cons (lstC_ren rfl (by decide)) .nil)) (.box (by decide) rfl (blkAs_cells (.cons (.same rfl) .nil)) (.row (by decide) rfl (fr_map fun _ => rfl) (.box (by decide) rfl (blkAs_cells (.cons (lstC_ren rfl (by decide)) .nil)) (.box (by decide) rfl (blkAs_cells (.cons (.same rfl) .nil)) .nil))))))) (clerestoryref4_Sent_fn2_j1_ok hzv7 hzv9 h)
    · replace h := ifF hc12 h
      refine Sv.skip ?_
      exact Sv.weak (weak_canon [0, 1, 2, 3, 4, 5] rfl (by decide) (by decide) (by decide) (.cons rfl (.c (.ref rfl (by decide))) (.cons rfl (.c (.ref rfl (by decide))) (.cons rfl (.c (.ref rfl (by decide))) (.cons rfl (avAs_free rfl) (.cons rfl (avAs_free rfl) (.cons rfl (avAs_free rfl) (.cons rfl (.c (.ref rfl (by decide))) (.cons rfl (avAs_free rfl) (.cons rfl (avAs_free rfl) (.cons rfl (avAs_free rfl) .nil)))))))))) (.row (by decide) rfl (fr_map fun _ => rfl) (.box (by decide) rfl (blkAs_cells (.cons (lstC_ren rfl (by decide)) .nil)) (.box (by decide) rfl (blkAs_cells (.cons (.same rfl) .nil)) (.row (by decide) rfl (fr_map fun _ => rfl) (.box (by decide) rfl (blkAs_cells (.cons (lstC_ren rfl (by decide)) .nil)) (.box (by decide) rfl (blkAs_cells (.cons (.same rfl) .nil)) .nil))))))) (clerestoryref4_Sent_fn2_j1_ok hzv7 hzv9 h)
def a9_c0 : ACode := (.seq (.region [⟨(some 75), (.bin .lss (.tmp 74) (.tmp 73)), none⟩])
 (.seq (.cond (.tmp 75) .skip (.exit 2))
 (.seq (.block 3 (.seq (.region [⟨(some 76), (.iaddr 8 (.tmp 72) (.tmp 74)), none⟩, ⟨(some 77), (.load true 8 (.tmp 76)), none⟩, ⟨(some 16), (.box (.const (.agg [(.val (.int .i64 0)), (.val (.int .i64 0)), (.str []), (.val (.bool false)), (.val (.bool false)), (.val (.bool false)), (.val (.bool false)), (.val (.bool false))]))), none⟩, ⟨none, (.store 8 (.tmp 16) (.tmp 77)), none⟩])
 (.region [⟨(some 78), (.mov (.tmp 12)), none⟩, ⟨(some 79), (.mov (.tmp 78)), none⟩, ⟨(some 80), (.faddr 0 (.tmp 14)), (some (79, false))⟩, ⟨(some 81), (.load false 1 (.tmp 80)), (some (79, false))⟩, ⟨(some 82), (.faddr 0 (.tmp 16)), (some (79, false))⟩, ⟨(some 83), (.load false 1 (.tmp 82)), (some (79, false))⟩, ⟨(some 84), (.bin .eql (.tmp 81) (.tmp 83)), (some (79, false))⟩, ⟨(some 85), (.pick (.tmp 79) (.const (.c (.val (.bool true)))) (.tmp 84)), none⟩, ⟨(some 12), (.mov (.tmp 85)), none⟩])))
 (.region [⟨(some 86), (.bin .add (.tmp 74) (.const (.c (.val (.int .i64 1))))), none⟩, ⟨(some 74), (.mov (.tmp 86)), none⟩]))))
def a9_c1 : ACode := (.seq (.region [⟨(some 52), (.bin .lss (.tmp 51) (.tmp 50)), none⟩])
 (.seq (.cond (.tmp 52) .skip (.exit 0))
 (.seq (.block 1 (.seq (.region [⟨(some 53), (.mov (.tmp 51)), none⟩, ⟨(some 54), (.iaddr 8 (.tmp 49) (.tmp 51)), none⟩, ⟨(some 55), (.load true 8 (.tmp 54)), none⟩, ⟨(some 14), (.box (.const (.agg [(.val (.int .i64 0)), (.val (.int .i64 0)), (.str []), (.val (.bool false)), (.val (.bool false)), (.val (.bool false)), (.val (.bool false)), (.val (.bool false))]))), none⟩, ⟨(some 13), (.mov (.tmp 53)), none⟩, ⟨none, (.store 8 (.tmp 14) (.tmp 55)), none⟩])
 (.seq (.seq (.region [⟨(some 56), (.faddr 1 (.tmp 14)), none⟩, ⟨(some 57), (.load false 1 (.tmp 56)), none⟩, ⟨(some 58), (.faddr 0 (.tmp 3)), none⟩, ⟨(some 59), (.load false 1 (.tmp 58)), none⟩, ⟨(some 60), (.len (.tmp 59)), none⟩, ⟨(some 61), (.bin .sub (.tmp 60) (.const (.c (.val (.int .i64 1))))), none⟩, ⟨(some 62), (.call 22 [(.tmp 57), (.const (.c (.val (.int .i64 0)))), (.tmp 61)]), none⟩, ⟨(some 63), (.un .not (.tmp 62)), none⟩])
 (.cond (.tmp 63) (.seq (.region [⟨(some 64), (.mov (.tmp 10)), none⟩, ⟨(some 65), (.callv (.tmp 64) [(.const (.c (.val (.int .i64 1))))]), none⟩, ⟨(some 66), (.ext (.tmp 65) 0), none⟩, ⟨(some 67), (.ext (.tmp 65) 1), none⟩, ⟨(some 68), (.ext (.tmp 65) 2), none⟩, ⟨(some 69), (.ext (.tmp 65) 3), none⟩, ⟨(some 6), (.mov (.tmp 66)), none⟩, ⟨(some 7), (.mov (.tmp 67)), none⟩, ⟨(some 8), (.mov (.tmp 68)), none⟩, ⟨(some 9), (.mov (.tmp 69)), none⟩])
 .ret) .skip))
 (.seq (.region [⟨(some 70), (.load false 1 (.tmp 4)), none⟩, ⟨(some 71), (.mov (.tmp 13)), none⟩, ⟨(some 72), (.slSl 8 (.tmp 70) none (some (.tmp 71)) none), none⟩, ⟨(some 73), (.len (.tmp 72)), none⟩, ⟨(some 74), (.mov (.const (.c (.val (.int .i64 0))))), none⟩])
 (.block 2 (.loop a9_c0))))))
 (.region [⟨(some 87), (.bin .add (.tmp 51) (.const (.c (.val (.int .i64 1))))), none⟩, ⟨(some 51), (.mov (.tmp 87)), none⟩]))))
def a9_c2 : ACode := (.seq (.region [⟨(some 126), (.bin .lss (.tmp 125) (.tmp 124)), none⟩])
 (.seq (.cond (.tmp 126) .skip (.exit 4))
 (.seq (.block 5 (.seq (.region [⟨(some 127), (.mov (.tmp 125)), none⟩, ⟨(some 24), (.mov (.tmp 127)), none⟩])
 (.region [⟨(some 128), (.mov (.tmp 23)), none⟩, ⟨(some 129), (.mov (.tmp 24)), none⟩, ⟨(some 130), (.callv (.tmp 128) [(.tmp 129), (.const (.c (.val (.bool true)))), (.const (.c (.val (.int .i64 1))))]), none⟩])))
 (.region [⟨(some 131), (.bin .add (.tmp 125) (.const (.c (.val (.int .i64 1))))), none⟩, ⟨(some 125), (.mov (.tmp 131)), none⟩]))))
def a9_c3 : ACode := (.seq (.seq (.region [⟨(some 140), (.mov (.tmp 25)), none⟩, ⟨(some 141), (.bin .geq (.tmp 140) (.const (.c (.val (.int .i64 0))))), none⟩, ⟨(some 142), (.mov (.tmp 141)), none⟩, ⟨(some 143), (.faddr 5 (.tmp 5)), (some (142, true))⟩, ⟨(some 144), (.load false 1 (.tmp 143)), (some (142, true))⟩, ⟨(some 145), (.pick (.tmp 142) (.tmp 144) (.const (.c (.val (.bool false))))), none⟩])
 (.cond (.tmp 145) .skip (.exit 6)))
 (.seq (.block 7 (.region [⟨(some 148), (.mov (.tmp 23)), none⟩, ⟨(some 149), (.mov (.tmp 25)), none⟩, ⟨(some 150), (.callv (.tmp 148) [(.tmp 149), (.const (.c (.val (.bool false)))), (.const (.c (.val (.int .i64 3))))]), none⟩]))
 (.region [⟨(some 146), (.mov (.tmp 25)), none⟩, ⟨(some 147), (.bin .sub (.tmp 146) (.const (.c (.val (.int .i64 1))))), none⟩, ⟨(some 25), (.mov (.tmp 147)), none⟩])))
def a9_c4 : ACode := (.region [⟨(some 166), (.bin .add (.tmp 153) (.const (.c (.val (.int .i64 1))))), none⟩, ⟨(some 153), (.mov (.tmp 166)), none⟩])
def a9_c5 : ACode := (.seq (.region [⟨(some 154), (.bin .lss (.tmp 153) (.tmp 152)), none⟩])
 (.seq (.cond (.tmp 154) .skip (.exit 8))
 (.seq (.block 9 (.seq (.region [⟨(some 155), (.iaddr 8 (.tmp 151) (.tmp 153)), none⟩, ⟨(some 156), (.load true 8 (.tmp 155)), none⟩, ⟨(some 28), (.box (.const (.agg [(.val (.int .i64 0)), (.val (.int .i64 0)), (.str []), (.val (.bool false)), (.val (.bool false)), (.val (.bool false)), (.val (.bool false)), (.val (.bool false))]))), none⟩, ⟨none, (.store 8 (.tmp 28) (.tmp 156)), none⟩])
 (.seq (.region [⟨(some 157), (.load false 1 (.tmp 20)), none⟩, ⟨(some 158), (.faddr 0 (.tmp 28)), none⟩, ⟨(some 159), (.load false 1 (.tmp 158)), none⟩, ⟨(some 160), (.call 23 [(.tmp 157), (.tmp 159)]), none⟩, ⟨(some 161), (.un .not (.tmp 160)), none⟩])
 (.cond (.tmp 161) (.region [⟨(some 162), (.mov (.tmp 26)), none⟩, ⟨(some 163), (.load true 8 (.tmp 28)), none⟩, ⟨(some 164), (.bslice 8 [(.val (.int .i64 0)), (.val (.int .i64 0)), (.str []), (.val (.bool false)), (.val (.bool false)), (.val (.bool false)), (.val (.bool false)), (.val (.bool false))] 1 [(0, (.tmp 163))]), none⟩, ⟨(some 165), (.app 8 40 (.tmp 162) (.tmp 164)), none⟩, ⟨(some 26), (.mov (.tmp 165)), none⟩]) .skip))))
 a9_c4)))
def a9 : AFunc := ⟨3, [(.tmp 6), (.tmp 7), (.tmp 8), (.tmp 9)], (.seq (.region [⟨(some 3), (.box (.tmp 0)), none⟩, ⟨(some 4), (.box (.tmp 1)), none⟩, ⟨(some 5), (.box (.tmp 2)), none⟩, ⟨(some 6), (.mov (.const (.c (.ro true 3 [])))), none⟩, ⟨(some 7), (.mov (.const (.c (.val (.bool false))))), none⟩, ⟨(some 8), (.mov (.const (.c (.ro true 8 [])))), none⟩, ⟨(some 9), (.mov (.const (.c (.val (.int .i64 0))))), none⟩])
 (.seq (.region [⟨(some 10), (.mov (.const (.c (.fn (.func 24) [] [])))), none⟩])
 (.seq (.seq (.region [⟨(some 29), (.load true 2 (.tmp 3)), none⟩, ⟨(some 30), (.call 14 [(.tmp 29)]), none⟩, ⟨(some 11), (.mov (.tmp 30)), none⟩])
 (.seq (.region [⟨(some 31), (.mov (.tmp 11)), none⟩, ⟨(some 32), (.bin .neq (.tmp 31) (.const (.c (.val (.int .i64 0))))), none⟩])
 (.cond (.tmp 32) (.seq (.region [⟨(some 33), (.mov (.tmp 10)), none⟩, ⟨(some 34), (.mov (.tmp 11)), none⟩, ⟨(some 35), (.callv (.tmp 33) [(.tmp 34)]), none⟩, ⟨(some 36), (.ext (.tmp 35) 0), none⟩, ⟨(some 37), (.ext (.tmp 35) 1), none⟩, ⟨(some 38), (.ext (.tmp 35) 2), none⟩, ⟨(some 39), (.ext (.tmp 35) 3), none⟩, ⟨(some 6), (.mov (.tmp 36)), none⟩, ⟨(some 7), (.mov (.tmp 37)), none⟩, ⟨(some 8), (.mov (.tmp 38)), none⟩, ⟨(some 9), (.mov (.tmp 39)), none⟩])
 .ret) .skip)))
 (.seq (.seq (.region [⟨(some 40), (.load false 1 (.tmp 4)), none⟩, ⟨(some 41), (.len (.tmp 40)), none⟩, ⟨(some 42), (.bin .gtr (.tmp 41) (.const (.c (.val (.int .i64 60))))), none⟩])
 (.cond (.tmp 42) (.seq (.region [⟨(some 43), (.mov (.tmp 10)), none⟩, ⟨(some 44), (.callv (.tmp 43) [(.const (.c (.val (.int .i64 2))))]), none⟩, ⟨(some 45), (.ext (.tmp 44) 0), none⟩, ⟨(some 46), (.ext (.tmp 44) 1), none⟩, ⟨(some 47), (.ext (.tmp 44) 2), none⟩, ⟨(some 48), (.ext (.tmp 44) 3), none⟩, ⟨(some 6), (.mov (.tmp 45)), none⟩, ⟨(some 7), (.mov (.tmp 46)), none⟩, ⟨(some 8), (.mov (.tmp 47)), none⟩, ⟨(some 9), (.mov (.tmp 48)), none⟩])
 .ret) .skip))
 (.seq (.region [⟨(some 12), (.mov (.const (.c (.val (.bool false))))), none⟩])
 (.seq (.seq (.region [⟨(some 49), (.load false 1 (.tmp 4)), none⟩, ⟨(some 50), (.len (.tmp 49)), none⟩, ⟨(some 51), (.mov (.const (.c (.val (.int .i64 0))))), none⟩])
 (.block 0 (.loop a9_c1)))
 (.seq (.seq (.region [⟨(some 88), (.mov (.tmp 12)), none⟩])
 (.cond (.tmp 88) (.seq (.region [⟨(some 89), (.mov (.tmp 10)), none⟩, ⟨(some 90), (.callv (.tmp 89) [(.const (.c (.val (.int .i64 6))))]), none⟩, ⟨(some 91), (.ext (.tmp 90) 0), none⟩, ⟨(some 92), (.ext (.tmp 90) 1), none⟩, ⟨(some 93), (.ext (.tmp 90) 2), none⟩, ⟨(some 94), (.ext (.tmp 90) 3), none⟩, ⟨(some 6), (.mov (.tmp 91)), none⟩, ⟨(some 7), (.mov (.tmp 92)), none⟩, ⟨(some 8), (.mov (.tmp 93)), none⟩, ⟨(some 9), (.mov (.tmp 94)), none⟩])
 .ret) .skip))
 (.seq (.seq (.region [⟨(some 95), (.faddr 0 (.tmp 5)), none⟩, ⟨(some 96), (.load false 1 (.tmp 95)), none⟩, ⟨(some 97), (.lenS (.tmp 96)), none⟩, ⟨(some 98), (.call 22 [(.tmp 97), (.const (.c (.val (.int .i64 1)))), (.const (.c (.val (.int .i64 40))))]), none⟩, ⟨(some 99), (.un .not (.tmp 98)), none⟩])
 (.cond (.tmp 99) (.seq (.region [⟨(some 100), (.mov (.tmp 10)), none⟩, ⟨(some 101), (.callv (.tmp 100) [(.const (.c (.val (.int .i64 3))))]), none⟩, ⟨(some 102), (.ext (.tmp 101) 0), none⟩, ⟨(some 103), (.ext (.tmp 101) 1), none⟩, ⟨(some 104), (.ext (.tmp 101) 2), none⟩, ⟨(some 105), (.ext (.tmp 101) 3), none⟩, ⟨(some 6), (.mov (.tmp 102)), none⟩, ⟨(some 7), (.mov (.tmp 103)), none⟩, ⟨(some 8), (.mov (.tmp 104)), none⟩, ⟨(some 9), (.mov (.tmp 105)), none⟩])
 .ret) .skip))
 (.seq (.region [⟨(some 107), (.load true 2 (.tmp 3)), none⟩, ⟨(some 108), (.faddr 1 (.tmp 5)), none⟩, ⟨(some 109), (.load false 1 (.tmp 108)), none⟩, ⟨(some 110), (.call 7 [(.tmp 107), (.tmp 109)]), none⟩, ⟨(some 106), (.mov (.tmp 110)), none⟩, ⟨(some 111), (.ext (.tmp 106) 0), none⟩, ⟨(some 112), (.ext (.tmp 106) 1), none⟩, ⟨(some 17), (.box (.const (.c (.ro true 1 [])))), none⟩, ⟨none, (.store 1 (.tmp 17) (.tmp 111)), none⟩, ⟨(some 18), (.mov (.tmp 112)), none⟩])
 (.seq (.seq (.region [⟨(some 113), (.mov (.tmp 18)), none⟩, ⟨(some 114), (.bin .neq (.tmp 113) (.const (.c (.val (.int .i64 0))))), none⟩])
 (.cond (.tmp 114) (.seq (.region [⟨(some 115), (.mov (.tmp 10)), none⟩, ⟨(some 116), (.mov (.tmp 18)), none⟩, ⟨(some 117), (.callv (.tmp 115) [(.tmp 116)]), none⟩, ⟨(some 118), (.ext (.tmp 117) 0), none⟩, ⟨(some 119), (.ext (.tmp 117) 1), none⟩, ⟨(some 120), (.ext (.tmp 117) 2), none⟩, ⟨(some 121), (.ext (.tmp 117) 3), none⟩, ⟨(some 6), (.mov (.tmp 118)), none⟩, ⟨(some 7), (.mov (.tmp 119)), none⟩, ⟨(some 8), (.mov (.tmp 120)), none⟩, ⟨(some 9), (.mov (.tmp 121)), none⟩])
 .ret) .skip))
 (.seq (.region [⟨(some 19), (.box (.const (.c (.ro true 3 [])))), none⟩])
 (.seq (.region [⟨(some 20), (.box (.const (.c (.ro true 1 [])))), none⟩])
 (.seq (.region [⟨(some 21), (.box (.const (.c (.val (.bool false))))), none⟩, ⟨(some 22), (.box (.const (.c (.val (.bool false))))), none⟩, ⟨none, (.store 1 (.tmp 21) (.const (.c (.val (.bool false))))), none⟩, ⟨none, (.store 1 (.tmp 22) (.const (.c (.val (.bool false))))), none⟩])
 (.seq (.region [⟨(some 122), (.mkfn (.func 25) [] [(.tmp 22), (.tmp 17), (.tmp 4), (.tmp 5), (.tmp 19), (.tmp 21), (.tmp 20)]), none⟩, ⟨(some 23), (.mov (.tmp 122)), none⟩])
 (.seq (.seq (.region [⟨(some 123), (.load false 1 (.tmp 17)), none⟩, ⟨(some 124), (.len (.tmp 123)), none⟩, ⟨(some 125), (.mov (.const (.c (.val (.int .i64 0))))), none⟩])
 (.block 4 (.loop a9_c2)))
 (.seq (.region [⟨(some 132), (.mov (.tmp 23)), none⟩, ⟨(some 133), (.load false 1 (.tmp 17)), none⟩, ⟨(some 134), (.len (.tmp 133)), none⟩, ⟨(some 135), (.bin .sub (.tmp 134) (.const (.c (.val (.int .i64 1))))), none⟩, ⟨(some 136), (.callv (.tmp 132) [(.tmp 135), (.const (.c (.val (.bool false)))), (.const (.c (.val (.int .i64 3))))]), none⟩])
 (.seq (.seq (.region [⟨(some 137), (.load false 1 (.tmp 17)), none⟩, ⟨(some 138), (.len (.tmp 137)), none⟩, ⟨(some 139), (.bin .sub (.tmp 138) (.const (.c (.val (.int .i64 2))))), none⟩, ⟨(some 25), (.mov (.tmp 139)), none⟩])
 (.block 6 (.loop a9_c3)))
 (.seq (.region [⟨(some 26), (.mov (.const (.c (.ro true 8 [])))), none⟩])
 (.seq (.seq (.region [⟨(some 151), (.load false 1 (.tmp 4)), none⟩, ⟨(some 152), (.len (.tmp 151)), none⟩, ⟨(some 153), (.mov (.const (.c (.val (.int .i64 0))))), none⟩])
 (.block 8 (.loop a9_c5)))
 (.seq (.drawn (.fin [(⟨(some 167), (.load false 1 (.tmp 19)), none⟩, (0, 0)), (⟨(some 168), (.load false 1 (.tmp 21)), none⟩, (0, 1)), (⟨(some 169), (.mov (.tmp 26)), none⟩, (0, 2)), (⟨(some 6), (.mov (.tmp 167)), none⟩, (0, 3)), (⟨(some 7), (.mov (.tmp 168)), none⟩, (0, 4)), (⟨(some 8), (.mov (.tmp 169)), none⟩, (0, 5)), (⟨(some 9), (.mov (.const (.c (.val (.int .i64 0))))), none⟩, (0, 6))]))
 .ret))))))))))))))))))))⟩
set_option maxRecDepth 100000 in
theorem c9 : compFunc Tryd.prog 9 = some a9 := by kernel_rfl
def clerestoryref4_Sent_post (r : ((List THeard) × Bool × (List TListener) × Int)) : AV → Heap → Nat → Prop := fun v h' n' => v = (.tup [(.c (.ro false 3 (r.1.map e_THeard))), (B r.2.1), (.c (.ro false 8 (r.2.2.1.map e_TListener))), (I r.2.2.2)]) ∧ (h' = (fun _ => none)) ∧ n' = 0
abbrev clerestoryref4_Sent_l3_E2 (l_ : (List TListener)) (v51 : Int) (d_ : TDoc) (e_ : TEvent) (F_ : Bool → Option ((List THeard) × Bool × (List TListener) × Int)) (o : ((List THeard) × Bool × (List TListener) × Int)) (R_ : St → Prop) : Prop := ∀ (twice3 : Bool), F_ twice3 = some o → ∀ s, Weak 0 s ⟨(upd (upd (upd (upd (upd (upd (upd (upd (fun _ => none) 3 (some (.c (.ref 0 2 0 0)))) 4 (some (.c (.ref 1 1 0 0)))) 5 (some (.c (.ref 2 7 0 0)))) 10 (some (.c (.fn (.func 24) [] [])))) 12 (some (B twice3))) 49 (some (.c (.ro false 8 (l_.map e_TListener))))) 50 (some (I (l_.length : Int)))) 51 (some (I v51))), (upd (upd (upd (fun _ => none) 0 (some (.cells 2 [[.ro false 6 (d_.Nodes.map e_TNode), cB d_.Quirks]]))) 1 (some (.cells 1 [[.ro false 8 (l_.map e_TListener)]]))) 2 (some (.cells 7 [[.str e_.f_Type, cI e_.Target, cI e_.X, cI e_.Y, .str e_.Key, cB e_.Bubbles, cB e_.Cancels]]))), 3⟩ → R_ s
abbrev clerestoryref4_Sent_l3_I (l_ : (List TListener)) (v51 : Int) (r_1 : (List TListener)) (d_ : TDoc) (e_ : TEvent) (x_ : TListener) (F_ : Nat → Bool → Int → Option ((List THeard) × Bool × (List TListener) × Int)) (o : ((List THeard) × Bool × (List TListener) × Int)) : Nat → St → Prop := fun k s => ∃ (twice2 : Bool), ∃ (v74 : Int), F_ k twice2 v74 = some o ∧ s = ⟨(upd (upd (upd (upd (upd (upd (upd (upd (upd (upd (upd (upd (fun _ => none) 3 (some (.c (.ref 0 2 0 0)))) 4 (some (.c (.ref 1 1 0 0)))) 5 (some (.c (.ref 2 7 0 0)))) 10 (some (.c (.fn (.func 24) [] [])))) 12 (some (B twice2))) 14 (some (.c (.ref 3 8 0 0)))) 49 (some (.c (.ro false 8 (l_.map e_TListener))))) 50 (some (I (l_.length : Int)))) 51 (some (I v51))) 72 (some (.c (.ro false 8 (r_1.map e_TListener))))) 73 (some (I (r_1.length : Int)))) 74 (some (I v74))), (upd (upd (upd (upd (fun _ => none) 0 (some (.cells 2 [[.ro false 6 (d_.Nodes.map e_TNode), cB d_.Quirks]]))) 1 (some (.cells 1 [[.ro false 8 (l_.map e_TListener)]]))) 2 (some (.cells 7 [[.str e_.f_Type, cI e_.Target, cI e_.X, cI e_.Y, .str e_.Key, cB e_.Bubbles, cB e_.Cancels]]))) 3 (some (.cells 8 [[cI x_.ID, cI x_.Node, .str x_.f_Type, cB x_.Capture, cB x_.Once, cB x_.Stops, cB x_.StopsAll, cB x_.Prevents]]))), 4⟩
abbrev clerestoryref4_Sent_l3_H (l_ : (List TListener)) (v51 : Int) (r_1 : (List TListener)) (d_ : TDoc) (e_ : TEvent) (x_ : TListener) (F_ : Bool → Int → Option ((List THeard) × Bool × (List TListener) × Int)) (o : ((List THeard) × Bool × (List TListener) × Int)) (R_ : St → Prop) : Prop := ∀ (twice2 : Bool) (v74 : Int), F_ twice2 v74 = some o → ∀ s, Weak 0 s ⟨(upd (upd (upd (upd (upd (upd (upd (upd (upd (upd (upd (upd (fun _ => none) 3 (some (.c (.ref 0 2 0 0)))) 4 (some (.c (.ref 1 1 0 0)))) 5 (some (.c (.ref 2 7 0 0)))) 10 (some (.c (.fn (.func 24) [] [])))) 12 (some (B twice2))) 14 (some (.c (.ref 3 8 0 0)))) 49 (some (.c (.ro false 8 (l_.map e_TListener))))) 50 (some (I (l_.length : Int)))) 51 (some (I v51))) 72 (some (.c (.ro false 8 (r_1.map e_TListener))))) 73 (some (I (r_1.length : Int)))) 74 (some (I v74))), (upd (upd (upd (upd (fun _ => none) 0 (some (.cells 2 [[.ro false 6 (d_.Nodes.map e_TNode), cB d_.Quirks]]))) 1 (some (.cells 1 [[.ro false 8 (l_.map e_TListener)]]))) 2 (some (.cells 7 [[.str e_.f_Type, cI e_.Target, cI e_.X, cI e_.Y, .str e_.Key, cB e_.Bubbles, cB e_.Cancels]]))) 3 (some (.cells 8 [[cI x_.ID, cI x_.Node, .str x_.f_Type, cB x_.Capture, cB x_.Once, cB x_.Stops, cB x_.StopsAll, cB x_.Prevents]]))), 4⟩ → R_ s
noncomputable def clerestoryref4_Sent_l3 (r_1 : (List TListener)) (x_ : TListener) (l_ : (List TListener)) (v51 : Int) (d_ : TDoc) (e_ : TEvent) (K2_ : Bool → Option ((List THeard) × Bool × (List TListener) × Int)) : Nat → Bool → Int → Option ((List THeard) × Bool × (List TListener) × Int)
  | 0, _, _ => none
  | k + 1, twice2, v74 =>
    if decide (v74 < (r_1.length : Int)) then
      (at? r_1 v74).bind fun x_1 =>
      (clerestoryref4_Sent_l3 r_1 x_ l_ v51 d_ e_ K2_ k) (twice2 || (decide (x_.ID = x_1.ID))) (wi (v74 + 1))
    else
      K2_ twice2
theorem clerestoryref4_Sent_l3_ok {mL : Int} {Q : AExit → St → Prop} {r_1 : (List TListener)} {x_ : TListener} {l_ : (List TListener)} {v51 : Int} {d_ : TDoc} {e_ : TEvent} {K2_ : Bool → Option ((List THeard) × Bool × (List TListener) × Int)} {k : Nat} {twice2 : Bool} {v74 : Int} {o : ((List THeard) × Bool × (List TListener) × Int)} (h : clerestoryref4_Sent_l3 r_1 x_ l_ v51 d_ e_ K2_ k twice2 v74 = some o)
    (hK2 : clerestoryref4_Sent_l3_E2 l_ v51 d_ e_ K2_ o (Q (.exit 2)))
    (hr : ∀ s, Ends a9.results 0 (clerestoryref4_Sent_post o) .ret s → Q .ret s) :
    Sv Tryd.prog (GG mL) 0 (.loop a9_c0) Q ⟨(upd (upd (upd (upd (upd (upd (upd (upd (upd (upd (upd (upd (fun _ => none) 3 (some (.c (.ref 0 2 0 0)))) 4 (some (.c (.ref 1 1 0 0)))) 5 (some (.c (.ref 2 7 0 0)))) 10 (some (.c (.fn (.func 24) [] [])))) 12 (some (B twice2))) 14 (some (.c (.ref 3 8 0 0)))) 49 (some (.c (.ro false 8 (l_.map e_TListener))))) 50 (some (I (l_.length : Int)))) 51 (some (I v51))) 72 (some (.c (.ro false 8 (r_1.map e_TListener))))) 73 (some (I (r_1.length : Int)))) 74 (some (I v74))), (upd (upd (upd (upd (fun _ => none) 0 (some (.cells 2 [[.ro false 6 (d_.Nodes.map e_TNode), cB d_.Quirks]]))) 1 (some (.cells 1 [[.ro false 8 (l_.map e_TListener)]]))) 2 (some (.cells 7 [[.str e_.f_Type, cI e_.Target, cI e_.X, cI e_.Y, .str e_.Key, cB e_.Bubbles, cB e_.Cancels]]))) 3 (some (.cells 8 [[cI x_.ID, cI x_.Node, .str x_.f_Type, cB x_.Capture, cB x_.Once, cB x_.Stops, cB x_.StopsAll, cB x_.Prevents]]))), 4⟩ := by
  refine Sv.loop (I := clerestoryref4_Sent_l3_I l_ v51 r_1 d_ e_ x_ (clerestoryref4_Sent_l3 r_1 x_ l_ v51 d_ e_ K2_) o) (fun k s hI => ?_) ⟨twice2, v74, h, rfl⟩
  clear h
  clear v74 twice2
  obtain ⟨twice2, v74, h, rfl⟩ := hI
  cases k with
  | zero => cases h
  | succ k =>
  rw [clerestoryref4_Sent_l3] at h
  have hself : clerestoryref4_Sent_l3_H l_ v51 r_1 d_ e_ x_ (clerestoryref4_Sent_l3 r_1 x_ l_ v51 d_ e_ K2_ k) o (rnd 0 (clerestoryref4_Sent_l3_I l_ v51 r_1 d_ e_ x_ (clerestoryref4_Sent_l3 r_1 x_ l_ v51 d_ e_ K2_) o) k Q) := fun twice2 v74 h s hw => ⟨_, k, hw, Nat.lt_succ_self k, twice2, v74, h, rfl⟩
  refine Sv.seq ?_
  refine Sv.region ?_
  refine un (a1 (v := (B (decide (v74 < (r_1.length : Int))))) rfl ?_)
  refine dnil ?_
  refine Sv.seq ?_
  refine Sv.cond (b := decide (v74 < (r_1.length : Int))) rfl (fun hc5 => ?_) (fun hc5 => ?_)
  · replace h := ifT hc5 h
    refine Sv.skip ?_
    refine Sv.seq ?_
    refine Sv.block ?_
    refine Sv.seq ?_
    refine Sv.region ?_
    obtain ⟨x_1, hx3, h⟩ := bnd h
    refine un (a1 (v := (.c (.rop [cI x_1.ID, cI x_1.Node, .str x_1.f_Type, cB x_1.Capture, cB x_1.Once, cB x_1.Stops, cB x_1.StopsAll, cB x_1.Prevents]))) (s_iaddr (e := e_TListener) (xs := r_1) rfl rfl hx3) ?_)
    refine un (a1 (v := (.agg [cI x_1.ID, cI x_1.Node, .str x_1.f_Type, cB x_1.Capture, cB x_1.Once, cB x_1.Stops, cB x_1.StopsAll, cB x_1.Prevents])) rfl ?_)
    refine un (a2v (v := (.c (.ref 4 8 0 0))) (h' := upd _ 4 (some (.cells 8 [[cI 0, cI 0, .str [], cB false, cB false, cB false, cB false, cB false]]))) (n' := 5) rfl rfl (fun h => by cases h) ?_)
    refine un (a2n (h' := upd _ 4 (some (.cells 8 [[cI x_1.ID, cI x_1.Node, .str x_1.f_Type, cB x_1.Capture, cB x_1.Once, cB x_1.Stops, cB x_1.StopsAll, cB x_1.Prevents]]))) (n' := 5) rfl rfl (fun h => by cases h) ?_)
    refine dnil ?_
    refine Sv.region ?_
    refine un (a1 rfl ?_)
    refine un (a1 rfl ?_)
    refine gjoin 6 (d := 85) (v := (B (twice2 || (decide (x_.ID = x_1.ID))))) (fun X hX => ?_) ?_
    · refine split2 (fun hc6 => ?_) (fun hc6 => ?_)
      · refine gs rfl rfl ?_
        refine gs rfl rfl ?_
        refine gs rfl rfl ?_
        refine gs rfl rfl ?_
        refine gs rfl rfl ?_
        refine un (a1 (v := (B true)) rfl ?_)
        refine dnil ?_
        exact hX _ (.putEq (by rw [hc6]; rfl) (.skip _ _ (.skip _ _ (.skip _ _ (.skip _ _ (.skip _ _ (.putEq (by rw [hc6]) (.refl _)) rfl) rfl) rfl) rfl) rfl))
      · refine gt rfl (a1 (v := (.c (.ref 3 8 0 0))) rfl ?_)
        refine gt rfl (a1 (v := (I x_.ID)) rfl ?_)
        refine gt rfl (a1 (v := (.c (.ref 4 8 0 0))) rfl ?_)
        refine gt rfl (a1 (v := (I x_1.ID)) rfl ?_)
        refine gt rfl (a1 (v := (B (decide (x_.ID = x_1.ID)))) rfl ?_)
        refine un (a1 (v := (B (decide (x_.ID = x_1.ID)))) rfl ?_)
        refine dnil ?_
        exact hX _ (.putEq (by rw [hc6]; rfl) (.skip _ _ (.skip _ _ (.skip _ _ (.skip _ _ (.skip _ _ (.putEq (by rw [hc6]) (.refl _)) rfl) rfl) rfl) rfl) rfl))
    refine un (a1 rfl ?_)
    refine dnil ?_
    refine Sv.region ?_
    refine un (a1 (v := (I (wi (v74 + 1)))) rfl ?_)
    refine un (a1 rfl ?_)
    refine dnil ?_
    exact hself (twice2 || (decide (x_.ID = x_1.ID))) (wi (v74 + 1)) h _ (weak_canon [0, 1, 2, 3] rfl (by decide) (by decide) (fun b h => absurd h (Nat.not_lt_zero _)) (.cons rfl (avAs_free rfl) (.cons rfl (avAs_free rfl) (.cons rfl (avAs_free rfl) (.cons rfl (avAs_free rfl) (.cons rfl (avAs_free rfl) (.cons rfl (avAs_free rfl) (.cons rfl (.c (.ref rfl (by decide))) (.cons rfl (avAs_free rfl) (.cons rfl (avAs_free rfl) (.cons rfl (.c (.ref rfl (by decide))) (.cons rfl (.c (.ref rfl (by decide))) (.cons rfl (.c (.ref rfl (by decide))) .nil)))))))))))) (.box (by decide) rfl (blkAs_cells (.cons (.same rfl) (.cons (.same rfl) (.cons (.same rfl) (.cons (.same rfl) (.cons (.same rfl) (.cons (.same rfl) (.cons (.same rfl) (.cons (.same rfl) .nil))))))))) (.box (by decide) rfl (blkAs_cells (.cons (.same rfl) (.cons (.same rfl) (.cons (.same rfl) (.cons (.same rfl) (.cons (.same rfl) (.cons (.same rfl) (.cons (.same rfl) .nil)))))))) (.box (by decide) rfl (blkAs_cells (.cons (.same rfl) .nil)) (.box (by decide) rfl (blkAs_cells (.cons (.same rfl) (.cons (.same rfl) .nil))) .nil)))))
  · replace h := ifF hc5 h
    refine Sv.exit ?_
    exact hK2 twice2 h _ (weak_canon [0, 1, 2] rfl (by decide) (by decide) (fun b h => absurd h (Nat.not_lt_zero _)) (.cons rfl (avAs_free rfl) (.cons rfl (avAs_free rfl) (.cons rfl (avAs_free rfl) (.cons rfl (avAs_free rfl) (.cons rfl (avAs_free rfl) (.cons rfl (.c (.ref rfl (by decide))) (.cons rfl (.c (.ref rfl (by decide))) (.cons rfl (.c (.ref rfl (by decide))) .nil)))))))) (.box (by decide) rfl (blkAs_cells (.cons (.same rfl) (.cons (.same rfl) (.cons (.same rfl) (.cons (.same rfl) (.cons (.same rfl) (.cons (.same rfl) (.cons (.same rfl) .nil)))))))) (.box (by decide) rfl (blkAs_cells (.cons (.same rfl) .nil)) (.box (by decide) rfl (blkAs_cells (.cons (.same rfl) (.cons (.same rfl) .nil))) .nil))))
abbrev clerestoryref4_Sent_l2_E0 (d_ : TDoc) (l_ : (List TListener)) (e_ : TEvent) (F_ : Bool → Option ((List THeard) × Bool × (List TListener) × Int)) (o : ((List THeard) × Bool × (List TListener) × Int)) (R_ : St → Prop) : Prop := ∀ (twice1 : Bool), F_ twice1 = some o → ∀ s, Weak 0 s ⟨(upd (upd (upd (upd (upd (fun _ => none) 3 (some (.c (.ref 0 2 0 0)))) 4 (some (.c (.ref 1 1 0 0)))) 5 (some (.c (.ref 2 7 0 0)))) 10 (some (.c (.fn (.func 24) [] [])))) 12 (some (B twice1))), (upd (upd (upd (fun _ => none) 0 (some (.cells 2 [[.ro false 6 (d_.Nodes.map e_TNode), cB d_.Quirks]]))) 1 (some (.cells 1 [[.ro false 8 (l_.map e_TListener)]]))) 2 (some (.cells 7 [[.str e_.f_Type, cI e_.Target, cI e_.X, cI e_.Y, .str e_.Key, cB e_.Bubbles, cB e_.Cancels]]))), 3⟩ → R_ s
abbrev clerestoryref4_Sent_l2_I (l_ : (List TListener)) (d_ : TDoc) (e_ : TEvent) (F_ : Nat → Bool → Int → Option ((List THeard) × Bool × (List TListener) × Int)) (o : ((List THeard) × Bool × (List TListener) × Int)) : Nat → St → Prop := fun k s => ∃ (twice : Bool), ∃ (v51 : Int), F_ k twice v51 = some o ∧ s = ⟨(upd (upd (upd (upd (upd (upd (upd (upd (fun _ => none) 3 (some (.c (.ref 0 2 0 0)))) 4 (some (.c (.ref 1 1 0 0)))) 5 (some (.c (.ref 2 7 0 0)))) 10 (some (.c (.fn (.func 24) [] [])))) 12 (some (B twice))) 49 (some (.c (.ro false 8 (l_.map e_TListener))))) 50 (some (I (l_.length : Int)))) 51 (some (I v51))), (upd (upd (upd (fun _ => none) 0 (some (.cells 2 [[.ro false 6 (d_.Nodes.map e_TNode), cB d_.Quirks]]))) 1 (some (.cells 1 [[.ro false 8 (l_.map e_TListener)]]))) 2 (some (.cells 7 [[.str e_.f_Type, cI e_.Target, cI e_.X, cI e_.Y, .str e_.Key, cB e_.Bubbles, cB e_.Cancels]]))), 3⟩
abbrev clerestoryref4_Sent_l2_H (l_ : (List TListener)) (d_ : TDoc) (e_ : TEvent) (F_ : Bool → Int → Option ((List THeard) × Bool × (List TListener) × Int)) (o : ((List THeard) × Bool × (List TListener) × Int)) (R_ : St → Prop) : Prop := ∀ (twice : Bool) (v51 : Int), F_ twice v51 = some o → ∀ s, Weak 0 s ⟨(upd (upd (upd (upd (upd (upd (upd (upd (fun _ => none) 3 (some (.c (.ref 0 2 0 0)))) 4 (some (.c (.ref 1 1 0 0)))) 5 (some (.c (.ref 2 7 0 0)))) 10 (some (.c (.fn (.func 24) [] [])))) 12 (some (B twice))) 49 (some (.c (.ro false 8 (l_.map e_TListener))))) 50 (some (I (l_.length : Int)))) 51 (some (I v51))), (upd (upd (upd (fun _ => none) 0 (some (.cells 2 [[.ro false 6 (d_.Nodes.map e_TNode), cB d_.Quirks]]))) 1 (some (.cells 1 [[.ro false 8 (l_.map e_TListener)]]))) 2 (some (.cells 7 [[.str e_.f_Type, cI e_.Target, cI e_.X, cI e_.Y, .str e_.Key, cB e_.Bubbles, cB e_.Cancels]]))), 3⟩ → R_ s
noncomputable def clerestoryref4_Sent_l2 (l_ : (List TListener)) (d_ : TDoc) (e_ : TEvent) (K0_ : Bool → Option ((List THeard) × Bool × (List TListener) × Int)) : Nat → Bool → Int → Option ((List THeard) × Bool × (List TListener) × Int)
  | 0, _, _ => none
  | k + 1, twice, v51 =>
    if decide (v51 < (l_.length : Int)) then
      (at? l_ v51).bind fun x_ =>
      if (!(clerestoryref4_Between x_.Node 0 (wi ((d_.Nodes.length : Int) - 1)))) then
        some (((clerestoryref4_Sent_fn1 1).1), (clerestoryref4_Sent_fn1 1).2.1, ((clerestoryref4_Sent_fn1 1).2.2.1), (clerestoryref4_Sent_fn1 1).2.2.2)
      else
        (sub? l_ 0 v51).bind fun r_1 =>
        lim fun kk => clerestoryref4_Sent_l3 r_1 x_ l_ v51 d_ e_ (fun (twice3 : Bool) => 
            (clerestoryref4_Sent_l2 l_ d_ e_ K0_ k) twice3 (wi (v51 + 1))) kk twice 0
    else
      K0_ twice
theorem clerestoryref4_Sent_l2_ok {mL : Int} {Q : AExit → St → Prop} {l_ : (List TListener)} {d_ : TDoc} {e_ : TEvent} {K0_ : Bool → Option ((List THeard) × Bool × (List TListener) × Int)} {k : Nat} {twice : Bool} {v51 : Int} {o : ((List THeard) × Bool × (List TListener) × Int)} (h : clerestoryref4_Sent_l2 l_ d_ e_ K0_ k twice v51 = some o)
    (hK0 : clerestoryref4_Sent_l2_E0 d_ l_ e_ K0_ o (Q (.exit 0)))
    (hr : ∀ s, Ends a9.results 0 (clerestoryref4_Sent_post o) .ret s → Q .ret s) :
    Sv Tryd.prog (GG mL) 0 (.loop a9_c1) Q ⟨(upd (upd (upd (upd (upd (upd (upd (upd (fun _ => none) 3 (some (.c (.ref 0 2 0 0)))) 4 (some (.c (.ref 1 1 0 0)))) 5 (some (.c (.ref 2 7 0 0)))) 10 (some (.c (.fn (.func 24) [] [])))) 12 (some (B twice))) 49 (some (.c (.ro false 8 (l_.map e_TListener))))) 50 (some (I (l_.length : Int)))) 51 (some (I v51))), (upd (upd (upd (fun _ => none) 0 (some (.cells 2 [[.ro false 6 (d_.Nodes.map e_TNode), cB d_.Quirks]]))) 1 (some (.cells 1 [[.ro false 8 (l_.map e_TListener)]]))) 2 (some (.cells 7 [[.str e_.f_Type, cI e_.Target, cI e_.X, cI e_.Y, .str e_.Key, cB e_.Bubbles, cB e_.Cancels]]))), 3⟩ := by
  refine Sv.loop (I := clerestoryref4_Sent_l2_I l_ d_ e_ (clerestoryref4_Sent_l2 l_ d_ e_ K0_) o) (fun k s hI => ?_) ⟨twice, v51, h, rfl⟩
  clear h
  clear v51 twice
  obtain ⟨twice, v51, h, rfl⟩ := hI
  cases k with
  | zero => cases h
  | succ k =>
  rw [clerestoryref4_Sent_l2] at h
  have hself : clerestoryref4_Sent_l2_H l_ d_ e_ (clerestoryref4_Sent_l2 l_ d_ e_ K0_ k) o (rnd 0 (clerestoryref4_Sent_l2_I l_ d_ e_ (clerestoryref4_Sent_l2 l_ d_ e_ K0_) o) k Q) := fun twice v51 h s hw => ⟨_, k, hw, Nat.lt_succ_self k, twice, v51, h, rfl⟩
  refine Sv.seq ?_
  refine Sv.region ?_
  refine un (a1 (v := (B (decide (v51 < (l_.length : Int))))) rfl ?_)
  refine dnil ?_
  refine Sv.seq ?_
  refine Sv.cond (b := decide (v51 < (l_.length : Int))) rfl (fun hc3 => ?_) (fun hc3 => ?_)
  · replace h := ifT hc3 h
    refine Sv.skip ?_
    refine Sv.seq ?_
    refine Sv.block ?_
    refine Sv.seq ?_
    refine Sv.region ?_
    refine un (a1 rfl ?_)
    obtain ⟨x_, hx1, h⟩ := bnd h
    refine un (a1 (v := (.c (.rop [cI x_.ID, cI x_.Node, .str x_.f_Type, cB x_.Capture, cB x_.Once, cB x_.Stops, cB x_.StopsAll, cB x_.Prevents]))) (s_iaddr (e := e_TListener) (xs := l_) rfl rfl hx1) ?_)
    refine un (a1 (v := (.agg [cI x_.ID, cI x_.Node, .str x_.f_Type, cB x_.Capture, cB x_.Once, cB x_.Stops, cB x_.StopsAll, cB x_.Prevents])) rfl ?_)
    refine un (a2v (v := (.c (.ref 3 8 0 0))) (h' := upd _ 3 (some (.cells 8 [[cI 0, cI 0, .str [], cB false, cB false, cB false, cB false, cB false]]))) (n' := 4) rfl rfl (fun h => by cases h) ?_)
    refine un (a1 rfl ?_)
    refine un (a2n (h' := upd _ 3 (some (.cells 8 [[cI x_.ID, cI x_.Node, .str x_.f_Type, cB x_.Capture, cB x_.Once, cB x_.Stops, cB x_.StopsAll, cB x_.Prevents]]))) (n' := 4) rfl rfl (fun h => by cases h) ?_)
    refine dnil ?_
    refine Sv.seq ?_
    refine Sv.seq ?_
    refine Sv.region ?_
    refine un (a1 (v := (.c (.ref 3 8 0 1))) rfl ?_)
    refine un (a1 (v := (I x_.Node)) rfl ?_)
    refine un (a1 (v := (.c (.ref 0 2 0 0))) rfl ?_)
    refine un (a1 (v := (.c (.ro false 6 (d_.Nodes.map e_TNode)))) rfl ?_)
    refine un (a1 (v := (I (d_.Nodes.length : Int))) (s_len (e := e_TNode) (xs := d_.Nodes) rfl) ?_)
    refine un (a1 (v := (I (wi ((d_.Nodes.length : Int) - 1)))) rfl ?_)
    refine un (ac_pure (clerestoryref4_Between_ok (mL := mL) x_.Node 0 (wi ((d_.Nodes.length : Int) - 1))) rfl rfl rfl ?_)
    refine un (a1 (v := (B (!(clerestoryref4_Between x_.Node 0 (wi ((d_.Nodes.length : Int) - 1)))))) rfl ?_)
    refine dnil ?_
    refine Sv.cond (b := (!(clerestoryref4_Between x_.Node 0 (wi ((d_.Nodes.length : Int) - 1))))) rfl (fun hc4 => ?_) (fun hc4 => ?_)
    · replace h := ifT hc4 h
      refine Sv.seq ?_
      refine Sv.region ?_
      refine un (a1 rfl ?_)
      refine un (acv_gen (bs := []) («as» := [(I 1)]) (h2 := _) (h1 := (fun _ => none)) rfl (by kernel_rfl) (clerestoryref4_Sent_fn1_ok (mL := mL) 1) rfl (.cons (avAs_free rfl) .nil) (hsub_refl _) (.nil _) (fun _ => rfl) (by decide) (by decide) (.cons (avAs_free rfl) .nil) .nil ?_)
      rintro _ _ _ hn ⟨rfl, rfl, rfl⟩
      refine ⟨.inl rfl, (rem [] _), fun hbd => (m3_rem (in_nil _) (.nil) hbd), (.tup [(.c (.ro false 3 (((clerestoryref4_Sent_fn1 1).1).map e_THeard))), (B ((clerestoryref4_Sent_fn1 1).2.1)), (.c (.ro false 8 (((clerestoryref4_Sent_fn1 1).2.2.1).map e_TListener))), (I ((clerestoryref4_Sent_fn1 1).2.2.2))]), 4, rfl, rfl, ?_⟩
      refine un (a1 (v := (.c (.ro false 3 (((clerestoryref4_Sent_fn1 1).1).map e_THeard)))) rfl ?_)
      refine un (a1 (v := (B ((clerestoryref4_Sent_fn1 1).2.1))) rfl ?_)
      refine un (a1 (v := (.c (.ro false 8 (((clerestoryref4_Sent_fn1 1).2.2.1).map e_TListener)))) rfl ?_)
      refine un (a1 (v := (I ((clerestoryref4_Sent_fn1 1).2.2.2))) rfl ?_)
      refine un (a1 rfl ?_)
      refine un (a1 rfl ?_)
      refine un (a1 rfl ?_)
      refine un (a1 rfl ?_)
      refine dnil ?_
      refine Sv.ret ?_
      replace h := Option.some.inj h
      subst h
      exact hr _ ⟨_, .refl _, _, rfl, ⟨upd (fun _ => none) 0 (some (.tup [(.c (.ro false 3 (((clerestoryref4_Sent_fn1 1).1).map e_THeard))), (B ((clerestoryref4_Sent_fn1 1).2.1)), (.c (.ro false 8 (((clerestoryref4_Sent_fn1 1).2.2.1).map e_TListener))), (I ((clerestoryref4_Sent_fn1 1).2.2.2))])), (fun _ => none), 0⟩, (.tup [(.c (.ro false 3 (((clerestoryref4_Sent_fn1 1).1).map e_THeard))), (B ((clerestoryref4_Sent_fn1 1).2.1)), (.c (.ro false 8 (((clerestoryref4_Sent_fn1 1).2.2.1).map e_TListener))), (I ((clerestoryref4_Sent_fn1 1).2.2.2))]), weak_canon [] rfl List.nodup_nil (Nat.le_refl _) (fun b h => absurd h (Nat.not_lt_zero _)) (.cons rfl (avAs_tup (.cons (avAs_free rfl) (.cons (avAs_free rfl) (.cons (avAs_free rfl) (.cons (avAs_free rfl) .nil))))) .nil) .nil, rfl, rfl, rfl, rfl⟩
    · replace h := ifF hc4 h
      refine Sv.skip ?_
      refine Sv.seq ?_
      refine Sv.region ?_
      refine un (a1 (v := (.c (.ro false 8 (l_.map e_TListener)))) rfl ?_)
      refine un (a1 rfl ?_)
      obtain ⟨r_1, hx2, h⟩ := bnd h
      refine un (a1 (v := (.c (.ro false 8 (r_1.map e_TListener)))) (s_slSl (e := e_TListener) rfl rfl rfl hx2) ?_)
      refine un (a1 (v := (I (r_1.length : Int))) (s_len (e := e_TListener) (xs := r_1) rfl) ?_)
      refine un (a1 rfl ?_)
      refine dnil ?_
      refine Sv.block ?_
      obtain ⟨kk, h⟩ := lim_some h
      refine Sv.weak (weak_canon [0, 1, 2, 3] rfl (by decide) (by decide) (fun b h => absurd h (Nat.not_lt_zero _)) (.cons rfl (avAs_free rfl) (.cons rfl (avAs_free rfl) (.cons rfl (avAs_free rfl) (.cons rfl (avAs_free rfl) (.cons rfl (avAs_free rfl) (.cons rfl (avAs_free rfl) (.cons rfl (.c (.ref rfl (by decide))) (.cons rfl (avAs_free rfl) (.cons rfl (avAs_free rfl) (.cons rfl (.c (.ref rfl (by decide))) (.cons rfl (.c (.ref rfl (by decide))) (.cons rfl (.c (.ref rfl (by decide))) .nil)))))))))))) (.box (by decide) rfl (blkAs_cells (.cons (.same rfl) (.cons (.same rfl) (.cons (.same rfl) (.cons (.same rfl) (.cons (.same rfl) (.cons (.same rfl) (.cons (.same rfl) (.cons (.same rfl) .nil))))))))) (.box (by decide) rfl (blkAs_cells (.cons (.same rfl) (.cons (.same rfl) (.cons (.same rfl) (.cons (.same rfl) (.cons (.same rfl) (.cons (.same rfl) (.cons (.same rfl) .nil)))))))) (.box (by decide) rfl (blkAs_cells (.cons (.same rfl) .nil)) (.box (by decide) rfl (blkAs_cells (.cons (.same rfl) (.cons (.same rfl) .nil))) .nil))))) (clerestoryref4_Sent_l3_ok h ?_ hr)
      · intro twice3 h _ hw1
        refine Sv.weak hw1 ?_
        refine Sv.region ?_
        refine un (a1 (v := (I (wi (v51 + 1)))) rfl ?_)
        refine un (a1 rfl ?_)
        refine dnil ?_
        exact hself twice3 (wi (v51 + 1)) h _ (weak_canon [0, 1, 2] rfl (by decide) (by decide) (fun b h => absurd h (Nat.not_lt_zero _)) (.cons rfl (avAs_free rfl) (.cons rfl (avAs_free rfl) (.cons rfl (avAs_free rfl) (.cons rfl (avAs_free rfl) (.cons rfl (avAs_free rfl) (.cons rfl (.c (.ref rfl (by decide))) (.cons rfl (.c (.ref rfl (by decide))) (.cons rfl (.c (.ref rfl (by decide))) .nil)))))))) (.box (by decide) rfl (blkAs_cells (.cons (.same rfl) (.cons (.same rfl) (.cons (.same rfl) (.cons (.same rfl) (.cons (.same rfl) (.cons (.same rfl) (.cons (.same rfl) .nil)))))))) (.box (by decide) rfl (blkAs_cells (.cons (.same rfl) .nil)) (.box (by decide) rfl (blkAs_cells (.cons (.same rfl) (.cons (.same rfl) .nil))) .nil))))
  · replace h := ifF hc3 h
    refine Sv.exit ?_
    exact hK0 twice h _ (weak_canon [0, 1, 2] rfl (by decide) (by decide) (fun b h => absurd h (Nat.not_lt_zero _)) (.cons rfl (avAs_free rfl) (.cons rfl (avAs_free rfl) (.cons rfl (.c (.ref rfl (by decide))) (.cons rfl (.c (.ref rfl (by decide))) (.cons rfl (.c (.ref rfl (by decide))) .nil))))) (.box (by decide) rfl (blkAs_cells (.cons (.same rfl) (.cons (.same rfl) (.cons (.same rfl) (.cons (.same rfl) (.cons (.same rfl) (.cons (.same rfl) (.cons (.same rfl) .nil)))))))) (.box (by decide) rfl (blkAs_cells (.cons (.same rfl) .nil)) (.box (by decide) rfl (blkAs_cells (.cons (.same rfl) (.cons (.same rfl) .nil))) .nil))))
abbrev clerestoryref4_Sent_l4_E4 (l_ : (List TListener)) (e_ : TEvent) (F_ : (List Int) → (List THeard) → (List Int) → Bool → Bool → Option ((List THeard) × Bool × (List TListener) × Int)) (o : ((List THeard) × Bool × (List TListener) × Int)) (R_ : St → Prop) : Prop := ∀ (way1 : (List Int)) (heard1 : (List THeard)) (gone_1 : (List Int)) (prevented1 : Bool) (at_1 : Bool) (zway1 : Bool) (_ : zway1 = true → way1 = []) (zheard1 : Bool) (_ : zheard1 = true → heard1 = []) (zgone_1 : Bool) (_ : zgone_1 = true → gone_1 = []), F_ way1 heard1 gone_1 prevented1 at_1 = some o → ∀ s, Weak 0 s ⟨(upd (upd (upd (upd (upd (upd (upd (fun _ => none) 4 (some (.c (.ref 0 1 0 0)))) 5 (some (.c (.ref 1 7 0 0)))) 17 (some (.c (.ref 2 1 0 0)))) 19 (some (.c (.ref 4 1 0 0)))) 20 (some (.c (.ref 6 1 0 0)))) 21 (some (.c (.ref 8 1 0 0)))) 23 (some (.c (.fn (.func 25) [] [.ref 9 1 0 0, .ref 2 1 0 0, .ref 0 1 0 0, .ref 1 7 0 0, .ref 4 1 0 0, .ref 8 1 0 0, .ref 6 1 0 0])))), (upd (upd (upd (upd (upd (upd (upd (upd (upd (upd (fun _ => none) 0 (some (.cells 1 [[.ro false 8 (l_.map e_TListener)]]))) 1 (some (.cells 7 [[.str e_.f_Type, cI e_.Target, cI e_.X, cI e_.Y, .str e_.Key, cB e_.Bubbles, cB e_.Cancels]]))) 2 (some (.cells 1 [[lstC zway1 3 1 way1.length]]))) 3 (lstB zway1 1 (way1.map eI))) 4 (some (.cells 1 [[lstC zheard1 5 3 heard1.length]]))) 5 (lstB zheard1 3 (heard1.map e_THeard))) 6 (some (.cells 1 [[lstC zgone_1 7 1 gone_1.length]]))) 7 (lstB zgone_1 1 (gone_1.map eI))) 8 (some (.cells 1 [[cB prevented1]]))) 9 (some (.cells 1 [[cB at_1]]))), 10⟩ → R_ s
abbrev clerestoryref4_Sent_l4_I (r_2 : ((List Int) × Int)) (l_ : (List TListener)) (e_ : TEvent) (F_ : Nat → (List Int) → (List THeard) → (List Int) → Bool → Bool → Int → Option ((List THeard) × Bool × (List TListener) × Int)) (o : ((List THeard) × Bool × (List TListener) × Int)) : Nat → St → Prop := fun k s => ∃ (way : (List Int)), ∃ (heard : (List THeard)), ∃ (gone_ : (List Int)), ∃ (prevented : Bool), ∃ (at_ : Bool), ∃ (v125 : Int), ∃ (zway : Bool), (zway = true → way = []) ∧ ∃ (zheard : Bool), (zheard = true → heard = []) ∧ ∃ (zgone : Bool), (zgone = true → gone_ = []) ∧ F_ k way heard gone_ prevented at_ v125 = some o ∧ s = ⟨(upd (upd (upd (upd (upd (upd (upd (upd (upd (fun _ => none) 4 (some (.c (.ref 0 1 0 0)))) 5 (some (.c (.ref 1 7 0 0)))) 17 (some (.c (.ref 2 1 0 0)))) 19 (some (.c (.ref 4 1 0 0)))) 20 (some (.c (.ref 6 1 0 0)))) 21 (some (.c (.ref 8 1 0 0)))) 23 (some (.c (.fn (.func 25) [] [.ref 9 1 0 0, .ref 2 1 0 0, .ref 0 1 0 0, .ref 1 7 0 0, .ref 4 1 0 0, .ref 8 1 0 0, .ref 6 1 0 0])))) 124 (some (I (r_2.1.length : Int)))) 125 (some (I v125))), (upd (upd (upd (upd (upd (upd (upd (upd (upd (upd (fun _ => none) 0 (some (.cells 1 [[.ro false 8 (l_.map e_TListener)]]))) 1 (some (.cells 7 [[.str e_.f_Type, cI e_.Target, cI e_.X, cI e_.Y, .str e_.Key, cB e_.Bubbles, cB e_.Cancels]]))) 2 (some (.cells 1 [[lstC zway 3 1 way.length]]))) 3 (lstB zway 1 (way.map eI))) 4 (some (.cells 1 [[lstC zheard 5 3 heard.length]]))) 5 (lstB zheard 3 (heard.map e_THeard))) 6 (some (.cells 1 [[lstC zgone 7 1 gone_.length]]))) 7 (lstB zgone 1 (gone_.map eI))) 8 (some (.cells 1 [[cB prevented]]))) 9 (some (.cells 1 [[cB at_]]))), 10⟩
abbrev clerestoryref4_Sent_l4_H (r_2 : ((List Int) × Int)) (l_ : (List TListener)) (e_ : TEvent) (F_ : (List Int) → (List THeard) → (List Int) → Bool → Bool → Int → Option ((List THeard) × Bool × (List TListener) × Int)) (o : ((List THeard) × Bool × (List TListener) × Int)) (R_ : St → Prop) : Prop := ∀ (way : (List Int)) (heard : (List THeard)) (gone_ : (List Int)) (prevented : Bool) (at_ : Bool) (v125 : Int) (zway : Bool) (_ : zway = true → way = []) (zheard : Bool) (_ : zheard = true → heard = []) (zgone : Bool) (_ : zgone = true → gone_ = []), F_ way heard gone_ prevented at_ v125 = some o → ∀ s, Weak 0 s ⟨(upd (upd (upd (upd (upd (upd (upd (upd (upd (fun _ => none) 4 (some (.c (.ref 0 1 0 0)))) 5 (some (.c (.ref 1 7 0 0)))) 17 (some (.c (.ref 2 1 0 0)))) 19 (some (.c (.ref 4 1 0 0)))) 20 (some (.c (.ref 6 1 0 0)))) 21 (some (.c (.ref 8 1 0 0)))) 23 (some (.c (.fn (.func 25) [] [.ref 9 1 0 0, .ref 2 1 0 0, .ref 0 1 0 0, .ref 1 7 0 0, .ref 4 1 0 0, .ref 8 1 0 0, .ref 6 1 0 0])))) 124 (some (I (r_2.1.length : Int)))) 125 (some (I v125))), (upd (upd (upd (upd (upd (upd (upd (upd (upd (upd (fun _ => none) 0 (some (.cells 1 [[.ro false 8 (l_.map e_TListener)]]))) 1 (some (.cells 7 [[.str e_.f_Type, cI e_.Target, cI e_.X, cI e_.Y, .str e_.Key, cB e_.Bubbles, cB e_.Cancels]]))) 2 (some (.cells 1 [[lstC zway 3 1 way.length]]))) 3 (lstB zway 1 (way.map eI))) 4 (some (.cells 1 [[lstC zheard 5 3 heard.length]]))) 5 (lstB zheard 3 (heard.map e_THeard))) 6 (some (.cells 1 [[lstC zgone 7 1 gone_.length]]))) 7 (lstB zgone 1 (gone_.map eI))) 8 (some (.cells 1 [[cB prevented]]))) 9 (some (.cells 1 [[cB at_]]))), 10⟩ → R_ s
noncomputable def clerestoryref4_Sent_l4 (r_2 : ((List Int) × Int)) (l_ : (List TListener)) (e_ : TEvent) (K4_ : (List Int) → (List THeard) → (List Int) → Bool → Bool → Option ((List THeard) × Bool × (List TListener) × Int)) : Nat → (List Int) → (List THeard) → (List Int) → Bool → Bool → Int → Option ((List THeard) × Bool × (List TListener) × Int)
  | 0, _, _, _, _, _, _ => none
  | k + 1, way, heard, gone_, prevented, at_, v125 =>
    if decide (v125 < (r_2.1.length : Int)) then
      (clerestoryref4_Sent_fn2 v125 true 1 at_ way l_ e_.f_Type e_.Target e_.X e_.Y e_.Key e_.Bubbles e_.Cancels heard prevented gone_).bind fun r_3 =>
      (clerestoryref4_Sent_l4 r_2 l_ e_ K4_ k) way r_3.2.1 r_3.2.2.2 r_3.2.2.1 r_3.1 (wi (v125 + 1))
    else
      K4_ way heard gone_ prevented at_
theorem clerestoryref4_Sent_l4_ok {mL : Int} {Q : AExit → St → Prop} {r_2 : ((List Int) × Int)} {l_ : (List TListener)} {e_ : TEvent} {K4_ : (List Int) → (List THeard) → (List Int) → Bool → Bool → Option ((List THeard) × Bool × (List TListener) × Int)} {k : Nat} {way : (List Int)} {heard : (List THeard)} {gone_ : (List Int)} {prevented : Bool} {at_ : Bool} {v125 : Int} {zway : Bool} (hzway : zway = true → way = []) {zheard : Bool} (hzheard : zheard = true → heard = []) {zgone : Bool} (hzgone : zgone = true → gone_ = []) {o : ((List THeard) × Bool × (List TListener) × Int)} (h : clerestoryref4_Sent_l4 r_2 l_ e_ K4_ k way heard gone_ prevented at_ v125 = some o)
    (hK4 : clerestoryref4_Sent_l4_E4 l_ e_ K4_ o (Q (.exit 4)))
    (hr : ∀ s, Ends a9.results 0 (clerestoryref4_Sent_post o) .ret s → Q .ret s) :
    Sv Tryd.prog (GG mL) 0 (.loop a9_c2) Q ⟨(upd (upd (upd (upd (upd (upd (upd (upd (upd (fun _ => none) 4 (some (.c (.ref 0 1 0 0)))) 5 (some (.c (.ref 1 7 0 0)))) 17 (some (.c (.ref 2 1 0 0)))) 19 (some (.c (.ref 4 1 0 0)))) 20 (some (.c (.ref 6 1 0 0)))) 21 (some (.c (.ref 8 1 0 0)))) 23 (some (.c (.fn (.func 25) [] [.ref 9 1 0 0, .ref 2 1 0 0, .ref 0 1 0 0, .ref 1 7 0 0, .ref 4 1 0 0, .ref 8 1 0 0, .ref 6 1 0 0])))) 124 (some (I (r_2.1.length : Int)))) 125 (some (I v125))), (upd (upd (upd (upd (upd (upd (upd (upd (upd (upd (fun _ => none) 0 (some (.cells 1 [[.ro false 8 (l_.map e_TListener)]]))) 1 (some (.cells 7 [[.str e_.f_Type, cI e_.Target, cI e_.X, cI e_.Y, .str e_.Key, cB e_.Bubbles, cB e_.Cancels]]))) 2 (some (.cells 1 [[lstC zway 3 1 way.length]]))) 3 (lstB zway 1 (way.map eI))) 4 (some (.cells 1 [[lstC zheard 5 3 heard.length]]))) 5 (lstB zheard 3 (heard.map e_THeard))) 6 (some (.cells 1 [[lstC zgone 7 1 gone_.length]]))) 7 (lstB zgone 1 (gone_.map eI))) 8 (some (.cells 1 [[cB prevented]]))) 9 (some (.cells 1 [[cB at_]]))), 10⟩ := by
  refine Sv.loop (I := clerestoryref4_Sent_l4_I r_2 l_ e_ (clerestoryref4_Sent_l4 r_2 l_ e_ K4_) o) (fun k s hI => ?_) ⟨way, heard, gone_, prevented, at_, v125, zway, hzway, zheard, hzheard, zgone, hzgone, h, rfl⟩
  clear h
  clear hzgone hzheard hzway zgone zheard zway v125 at_ prevented gone_ heard way
  obtain ⟨way, heard, gone_, prevented, at_, v125, zway, hzway, zheard, hzheard, zgone, hzgone, h, rfl⟩ := hI
  cases k with
  | zero => cases h
  | succ k =>
  rw [clerestoryref4_Sent_l4] at h
  have hself : clerestoryref4_Sent_l4_H r_2 l_ e_ (clerestoryref4_Sent_l4 r_2 l_ e_ K4_ k) o (rnd 0 (clerestoryref4_Sent_l4_I r_2 l_ e_ (clerestoryref4_Sent_l4 r_2 l_ e_ K4_) o) k Q) := fun way heard gone_ prevented at_ v125 zway hzway zheard hzheard zgone hzgone h s hw => ⟨_, k, hw, Nat.lt_succ_self k, way, heard, gone_, prevented, at_, v125, zway, hzway, zheard, hzheard, zgone, hzgone, h, rfl⟩
  refine Sv.seq ?_
  refine Sv.region ?_
  refine un (a1 (v := (B (decide (v125 < (r_2.1.length : Int))))) rfl ?_)
  refine dnil ?_
  refine Sv.seq ?_
  refine Sv.cond (b := decide (v125 < (r_2.1.length : Int))) rfl (fun hc10 => ?_) (fun hc10 => ?_)
  · replace h := ifT hc10 h
    refine Sv.skip ?_
    refine Sv.seq ?_
    refine Sv.block ?_
    refine Sv.seq ?_
    refine Sv.region ?_
    refine un (a1 rfl ?_)
    refine un (a1 rfl ?_)
    refine dnil ?_
    refine Sv.region ?_
    refine un (a1 rfl ?_)
    refine un (a1 rfl ?_)
    obtain ⟨r_3, hr3, h⟩ := bnd h
    refine un (acv_gen (bs := [9, 4, 5, 8, 6, 7]) («as» := [(I v125), (B true), (I 1), (.c (.ref 9 1 0 0)), (.c (.rop [.ro false 1 (way.map eI)])), (.c (.rop [.ro false 8 (l_.map e_TListener)])), (.c (.rop [.str e_.f_Type, cI e_.Target, cI e_.X, cI e_.Y, .str e_.Key, cB e_.Bubbles, cB e_.Cancels])), (.c (.ref 4 1 0 0)), (.c (.ref 8 1 0 0)), (.c (.ref 6 1 0 0))]) (h2 := (upd (upd (upd (upd _ 2 none) 3 none) 0 none) 1 none)) (h1 := (upd (upd (upd (upd (upd (upd (fun _ => none) 9 (some (.cells 1 [[cB at_]]))) 4 (some (.cells 1 [[lstC zheard 5 3 heard.length]]))) 5 (lstB zheard 3 (heard.map e_THeard))) 8 (some (.cells 1 [[cB prevented]]))) 6 (some (.cells 1 [[lstC zgone 7 1 gone_.length]]))) 7 (lstB zgone 1 (gone_.map eI)))) rfl (by kernel_rfl) (clerestoryref4_Sent_fn2_ok hzheard hzgone hr3) rfl (.cons (avAs_free rfl) (.cons (avAs_free rfl) (.cons (avAs_free rfl) (.cons (.c (.ref rfl (by decide))) (.cons (.c (ref_ro rfl (gone rfl) (.cons (lstC_ro (es := List.map eI way) rfl (List.length_map eI).symm (map_nil_of hzway) (gone rfl) (fr_map fun _ => rfl)) .nil) rfl)) (.cons (.c (ref_ro rfl (gone rfl) (.cons (.same rfl) .nil) rfl)) (.cons (.c (ref_ro rfl (gone rfl) (.cons (.same rfl) (.cons (.same rfl) (.cons (.same rfl) (.cons (.same rfl) (.cons (.same rfl) (.cons (.same rfl) (.cons (.same rfl) .nil))))))) rfl)) (.cons (.c (.ref rfl (by decide))) (.cons (.c (.ref rfl (by decide))) (.cons (.c (.ref rfl (by decide))) .nil)))))))))) (hsub_none (hsub_none (hsub_none (hsub_none (hsub_refl _))))) (.cons rfl (.cons rfl (.cons rfl (.cons rfl (.cons rfl (.cons rfl (.nil _))))))) (fun h => by cases h) (by decide) (by decide) (.cons (avAs_free rfl) (.cons (avAs_free rfl) (.cons (avAs_free rfl) (.cons (.c (.ref rfl (by decide))) (.cons (avAs_free rfl) (.cons (avAs_free rfl) (.cons (avAs_free rfl) (.cons (.c (.ref rfl (by decide))) (.cons (.c (.ref rfl (by decide))) (.cons (.c (.ref rfl (by decide))) .nil)))))))))) (.row (by decide) rfl (fr_map fun _ => rfl) (.box (by decide) rfl (blkAs_cells (.cons (lstC_ren rfl (by decide)) .nil)) (.box (by decide) rfl (blkAs_cells (.cons (.same rfl) .nil)) (.row (by decide) rfl (fr_map fun _ => rfl) (.box (by decide) rfl (blkAs_cells (.cons (lstC_ren rfl (by decide)) .nil)) (.box (by decide) rfl (blkAs_cells (.cons (.same rfl) .nil)) .nil)))))) ?_)
    rintro _ _ _ hn ⟨z_1, hz_1, z_2, hz_2, rfl, rfl, rfl⟩
    refine ⟨.inr ⟨(by cases z_1 <;> cases z_2 <;> rfl), (.row (cl_map fun _ => rfl) (.row (cl_map fun _ => rfl) (.box (by cases z_2 <;> rfl) (.box rfl (.box (by cases z_1 <;> rfl) (.box rfl .nil))))))⟩, (upd (upd (upd (upd (upd (upd (rem [9, 4, 5, 8, 6, 7] _) 9 (some (.cells 1 [[cB r_3.1]]))) 4 (some (.cells 1 [[lstC z_1 10 3 r_3.2.1.length]]))) 8 (some (.cells 1 [[cB r_3.2.2.1]]))) 6 (some (.cells 1 [[lstC z_2 11 1 r_3.2.2.2.length]]))) 10 (lstB z_1 3 (r_3.2.1.map e_THeard))) 11 (lstB z_2 1 (r_3.2.2.2.map eI))), fun hbd => (m3_cons (m3_row rfl (fr_map fun _ => rfl)) (m3_cons (m3_row rfl (fr_map fun _ => rfl)) (m3_cons (m3_box rfl (by cases z_2 <;> rfl)) (m3_cons (m3_box rfl rfl) (m3_cons (m3_box rfl (by cases z_1 <;> rfl)) (m3_cons (m3_box rfl rfl) (m3_rem (in_cons (by decide) (in_cons (by decide) (in_cons (by decide) (in_cons (by decide) (in_cons (by decide) (in_cons (by decide) (in_nil _))))))) (.cons (by decide) (.cons (by decide) (.cons (by decide) (.cons (by decide) (.cons (by decide) (.cons (by decide) .nil)))))) hbd))))))), (.tup []), 12, (by cases z_1 <;> cases z_2 <;> rfl), rfl, ?_⟩
    refine dnil ?_
    refine Sv.region ?_
    refine un (a1 (v := (I (wi (v125 + 1)))) rfl ?_)
    refine un (a1 rfl ?_)
    refine dnil ?_
    exact hself way r_3.2.1 r_3.2.2.2 r_3.2.2.1 r_3.1 (wi (v125 + 1)) zway hzway z_1 hz_1 z_2 hz_2 h _ (weak_canon [0, 1, 2, 3, 4, 10, 6, 11, 8, 9] rfl (by decide) (by decide) (fun b h => absurd h (Nat.not_lt_zero _)) (.cons rfl (avAs_free rfl) (.cons rfl (avAs_free rfl) (.cons rfl (.c (fn_as .nil (.cons (.ref rfl (by decide)) (.cons (.ref rfl (by decide)) (.cons (.ref rfl (by decide)) (.cons (.ref rfl (by decide)) (.cons (.ref rfl (by decide)) (.cons (.ref rfl (by decide)) (.cons (.ref rfl (by decide)) .nil))))))))) (.cons rfl (.c (.ref rfl (by decide))) (.cons rfl (.c (.ref rfl (by decide))) (.cons rfl (.c (.ref rfl (by decide))) (.cons rfl (.c (.ref rfl (by decide))) (.cons rfl (.c (.ref rfl (by decide))) (.cons rfl (.c (.ref rfl (by decide))) .nil))))))))) (.box (by decide) rfl (blkAs_cells (.cons (.same rfl) .nil)) (.box (by decide) rfl (blkAs_cells (.cons (.same rfl) .nil)) (.row (by decide) rfl (fr_map fun _ => rfl) (.box (by decide) rfl (blkAs_cells (.cons (lstC_ren rfl (by decide)) .nil)) (.row (by decide) rfl (fr_map fun _ => rfl) (.box (by decide) rfl (blkAs_cells (.cons (lstC_ren rfl (by decide)) .nil)) (.row (by decide) rfl (fr_map fun _ => rfl) (.box (by decide) rfl (blkAs_cells (.cons (lstC_ren rfl (by decide)) .nil)) (.box (by decide) rfl (blkAs_cells (.cons (.same rfl) (.cons (.same rfl) (.cons (.same rfl) (.cons (.same rfl) (.cons (.same rfl) (.cons (.same rfl) (.cons (.same rfl) .nil)))))))) (.box (by decide) rfl (blkAs_cells (.cons (.same rfl) .nil)) .nil)))))))))))
  · replace h := ifF hc10 h
    refine Sv.exit ?_
    exact hK4 way heard gone_ prevented at_ zway hzway zheard hzheard zgone hzgone h _ (weak_canon [0, 1, 2, 3, 4, 5, 6, 7, 8, 9] rfl (by decide) (by decide) (fun b h => absurd h (Nat.not_lt_zero _)) (.cons rfl (.c (fn_as .nil (.cons (.ref rfl (by decide)) (.cons (.ref rfl (by decide)) (.cons (.ref rfl (by decide)) (.cons (.ref rfl (by decide)) (.cons (.ref rfl (by decide)) (.cons (.ref rfl (by decide)) (.cons (.ref rfl (by decide)) .nil))))))))) (.cons rfl (.c (.ref rfl (by decide))) (.cons rfl (.c (.ref rfl (by decide))) (.cons rfl (.c (.ref rfl (by decide))) (.cons rfl (.c (.ref rfl (by decide))) (.cons rfl (.c (.ref rfl (by decide))) (.cons rfl (.c (.ref rfl (by decide))) .nil))))))) (.box (by decide) rfl (blkAs_cells (.cons (.same rfl) .nil)) (.box (by decide) rfl (blkAs_cells (.cons (.same rfl) .nil)) (.row (by decide) rfl (fr_map fun _ => rfl) (.box (by decide) rfl (blkAs_cells (.cons (lstC_ren rfl (by decide)) .nil)) (.row (by decide) rfl (fr_map fun _ => rfl) (.box (by decide) rfl (blkAs_cells (.cons (lstC_ren rfl (by decide)) .nil)) (.row (by decide) rfl (fr_map fun _ => rfl) (.box (by decide) rfl (blkAs_cells (.cons (lstC_ren rfl (by decide)) .nil)) (.box (by decide) rfl (blkAs_cells (.cons (.same rfl) (.cons (.same rfl) (.cons (.same rfl) (.cons (.same rfl) (.cons (.same rfl) (.cons (.same rfl) (.cons (.same rfl) .nil)))))))) (.box (by decide) rfl (blkAs_cells (.cons (.same rfl) .nil)) .nil)))))))))))
abbrev clerestoryref4_Sent_l5_E6 (l_ : (List TListener)) (F_ : (List THeard) → (List Int) → Bool → Option ((List THeard) × Bool × (List TListener) × Int)) (o : ((List THeard) × Bool × (List TListener) × Int)) (R_ : St → Prop) : Prop := ∀ (heard3 : (List THeard)) (gone_3 : (List Int)) (prevented3 : Bool) (zheard3 : Bool) (_ : zheard3 = true → heard3 = []) (zgone_3 : Bool) (_ : zgone_3 = true → gone_3 = []), F_ heard3 gone_3 prevented3 = some o → ∀ s, Weak 0 s ⟨(upd (upd (upd (upd (fun _ => none) 4 (some (.c (.ref 0 1 0 0)))) 19 (some (.c (.ref 1 1 0 0)))) 20 (some (.c (.ref 3 1 0 0)))) 21 (some (.c (.ref 5 1 0 0)))), (upd (upd (upd (upd (upd (upd (fun _ => none) 0 (some (.cells 1 [[.ro false 8 (l_.map e_TListener)]]))) 1 (some (.cells 1 [[lstC zheard3 2 3 heard3.length]]))) 2 (lstB zheard3 3 (heard3.map e_THeard))) 3 (some (.cells 1 [[lstC zgone_3 4 1 gone_3.length]]))) 4 (lstB zgone_3 1 (gone_3.map eI))) 5 (some (.cells 1 [[cB prevented3]]))), 6⟩ → R_ s
abbrev clerestoryref4_Sent_l5_I (l_ : (List TListener)) (e_ : TEvent) (zway1 : Bool) (way1 : (List Int)) (F_ : Nat → (List THeard) → (List Int) → Bool → Bool → Int → Option ((List THeard) × Bool × (List TListener) × Int)) (o : ((List THeard) × Bool × (List TListener) × Int)) : Nat → St → Prop := fun k s => ∃ (heard2 : (List THeard)), ∃ (gone_2 : (List Int)), ∃ (prevented2 : Bool), ∃ (at_2 : Bool), ∃ (k_ : Int), ∃ (zheard2 : Bool), (zheard2 = true → heard2 = []) ∧ ∃ (zgone_2 : Bool), (zgone_2 = true → gone_2 = []) ∧ F_ k heard2 gone_2 prevented2 at_2 k_ = some o ∧ s = ⟨(upd (upd (upd (upd (upd (upd (upd (fun _ => none) 4 (some (.c (.ref 0 1 0 0)))) 5 (some (.c (.ref 1 7 0 0)))) 19 (some (.c (.ref 2 1 0 0)))) 20 (some (.c (.ref 4 1 0 0)))) 21 (some (.c (.ref 6 1 0 0)))) 23 (some (.c (.fn (.func 25) [] [.ref 7 1 0 0, .ref 8 1 0 0, .ref 0 1 0 0, .ref 1 7 0 0, .ref 2 1 0 0, .ref 6 1 0 0, .ref 4 1 0 0])))) 25 (some (I k_))), (upd (upd (upd (upd (upd (upd (upd (upd (upd (upd (fun _ => none) 0 (some (.cells 1 [[.ro false 8 (l_.map e_TListener)]]))) 1 (some (.cells 7 [[.str e_.f_Type, cI e_.Target, cI e_.X, cI e_.Y, .str e_.Key, cB e_.Bubbles, cB e_.Cancels]]))) 2 (some (.cells 1 [[lstC zheard2 3 3 heard2.length]]))) 3 (lstB zheard2 3 (heard2.map e_THeard))) 4 (some (.cells 1 [[lstC zgone_2 5 1 gone_2.length]]))) 5 (lstB zgone_2 1 (gone_2.map eI))) 6 (some (.cells 1 [[cB prevented2]]))) 7 (some (.cells 1 [[cB at_2]]))) 8 (some (.cells 1 [[lstC zway1 9 1 way1.length]]))) 9 (lstB zway1 1 (way1.map eI))), 10⟩
abbrev clerestoryref4_Sent_l5_H (l_ : (List TListener)) (e_ : TEvent) (zway1 : Bool) (way1 : (List Int)) (F_ : (List THeard) → (List Int) → Bool → Bool → Int → Option ((List THeard) × Bool × (List TListener) × Int)) (o : ((List THeard) × Bool × (List TListener) × Int)) (R_ : St → Prop) : Prop := ∀ (heard2 : (List THeard)) (gone_2 : (List Int)) (prevented2 : Bool) (at_2 : Bool) (k_ : Int) (zheard2 : Bool) (_ : zheard2 = true → heard2 = []) (zgone_2 : Bool) (_ : zgone_2 = true → gone_2 = []), F_ heard2 gone_2 prevented2 at_2 k_ = some o → ∀ s, Weak 0 s ⟨(upd (upd (upd (upd (upd (upd (upd (fun _ => none) 4 (some (.c (.ref 0 1 0 0)))) 5 (some (.c (.ref 1 7 0 0)))) 19 (some (.c (.ref 2 1 0 0)))) 20 (some (.c (.ref 4 1 0 0)))) 21 (some (.c (.ref 6 1 0 0)))) 23 (some (.c (.fn (.func 25) [] [.ref 7 1 0 0, .ref 8 1 0 0, .ref 0 1 0 0, .ref 1 7 0 0, .ref 2 1 0 0, .ref 6 1 0 0, .ref 4 1 0 0])))) 25 (some (I k_))), (upd (upd (upd (upd (upd (upd (upd (upd (upd (upd (fun _ => none) 0 (some (.cells 1 [[.ro false 8 (l_.map e_TListener)]]))) 1 (some (.cells 7 [[.str e_.f_Type, cI e_.Target, cI e_.X, cI e_.Y, .str e_.Key, cB e_.Bubbles, cB e_.Cancels]]))) 2 (some (.cells 1 [[lstC zheard2 3 3 heard2.length]]))) 3 (lstB zheard2 3 (heard2.map e_THeard))) 4 (some (.cells 1 [[lstC zgone_2 5 1 gone_2.length]]))) 5 (lstB zgone_2 1 (gone_2.map eI))) 6 (some (.cells 1 [[cB prevented2]]))) 7 (some (.cells 1 [[cB at_2]]))) 8 (some (.cells 1 [[lstC zway1 9 1 way1.length]]))) 9 (lstB zway1 1 (way1.map eI))), 10⟩ → R_ s
noncomputable def clerestoryref4_Sent_l5 (e_ : TEvent) (way1 : (List Int)) (l_ : (List TListener)) (K6_ : (List THeard) → (List Int) → Bool → Option ((List THeard) × Bool × (List TListener) × Int)) : Nat → (List THeard) → (List Int) → Bool → Bool → Int → Option ((List THeard) × Bool × (List TListener) × Int)
  | 0, _, _, _, _, _ => none
  | k + 1, heard2, gone_2, prevented2, at_2, k_ =>
    if ((decide (0 ≤ k_)) && e_.Bubbles) then
      (clerestoryref4_Sent_fn2 k_ false 3 at_2 way1 l_ e_.f_Type e_.Target e_.X e_.Y e_.Key e_.Bubbles e_.Cancels heard2 prevented2 gone_2).bind fun r_5 =>
      (clerestoryref4_Sent_l5 e_ way1 l_ K6_ k) r_5.2.1 r_5.2.2.2 r_5.2.2.1 r_5.1 (wi (k_ - 1))
    else
      K6_ heard2 gone_2 prevented2
theorem clerestoryref4_Sent_l5_ok {mL : Int} {Q : AExit → St → Prop} {e_ : TEvent} {way1 : (List Int)} {l_ : (List TListener)} {K6_ : (List THeard) → (List Int) → Bool → Option ((List THeard) × Bool × (List TListener) × Int)} {zway1 : Bool} (hzway1 : zway1 = true → way1 = []) {k : Nat} {heard2 : (List THeard)} {gone_2 : (List Int)} {prevented2 : Bool} {at_2 : Bool} {k_ : Int} {zheard2 : Bool} (hzheard2 : zheard2 = true → heard2 = []) {zgone_2 : Bool} (hzgone_2 : zgone_2 = true → gone_2 = []) {o : ((List THeard) × Bool × (List TListener) × Int)} (h : clerestoryref4_Sent_l5 e_ way1 l_ K6_ k heard2 gone_2 prevented2 at_2 k_ = some o)
    (hK6 : clerestoryref4_Sent_l5_E6 l_ K6_ o (Q (.exit 6)))
    (hr : ∀ s, Ends a9.results 0 (clerestoryref4_Sent_post o) .ret s → Q .ret s) :
    Sv Tryd.prog (GG mL) 0 (.loop a9_c3) Q ⟨(upd (upd (upd (upd (upd (upd (upd (fun _ => none) 4 (some (.c (.ref 0 1 0 0)))) 5 (some (.c (.ref 1 7 0 0)))) 19 (some (.c (.ref 2 1 0 0)))) 20 (some (.c (.ref 4 1 0 0)))) 21 (some (.c (.ref 6 1 0 0)))) 23 (some (.c (.fn (.func 25) [] [.ref 7 1 0 0, .ref 8 1 0 0, .ref 0 1 0 0, .ref 1 7 0 0, .ref 2 1 0 0, .ref 6 1 0 0, .ref 4 1 0 0])))) 25 (some (I k_))), (upd (upd (upd (upd (upd (upd (upd (upd (upd (upd (fun _ => none) 0 (some (.cells 1 [[.ro false 8 (l_.map e_TListener)]]))) 1 (some (.cells 7 [[.str e_.f_Type, cI e_.Target, cI e_.X, cI e_.Y, .str e_.Key, cB e_.Bubbles, cB e_.Cancels]]))) 2 (some (.cells 1 [[lstC zheard2 3 3 heard2.length]]))) 3 (lstB zheard2 3 (heard2.map e_THeard))) 4 (some (.cells 1 [[lstC zgone_2 5 1 gone_2.length]]))) 5 (lstB zgone_2 1 (gone_2.map eI))) 6 (some (.cells 1 [[cB prevented2]]))) 7 (some (.cells 1 [[cB at_2]]))) 8 (some (.cells 1 [[lstC zway1 9 1 way1.length]]))) 9 (lstB zway1 1 (way1.map eI))), 10⟩ := by
  refine Sv.loop (I := clerestoryref4_Sent_l5_I l_ e_ zway1 way1 (clerestoryref4_Sent_l5 e_ way1 l_ K6_) o) (fun k s hI => ?_) ⟨heard2, gone_2, prevented2, at_2, k_, zheard2, hzheard2, zgone_2, hzgone_2, h, rfl⟩
  clear h
  clear hzgone_2 hzheard2 zgone_2 zheard2 k_ at_2 prevented2 gone_2 heard2
  obtain ⟨heard2, gone_2, prevented2, at_2, k_, zheard2, hzheard2, zgone_2, hzgone_2, h, rfl⟩ := hI
  cases k with
  | zero => cases h
  | succ k =>
  rw [clerestoryref4_Sent_l5] at h
  have hself : clerestoryref4_Sent_l5_H l_ e_ zway1 way1 (clerestoryref4_Sent_l5 e_ way1 l_ K6_ k) o (rnd 0 (clerestoryref4_Sent_l5_I l_ e_ zway1 way1 (clerestoryref4_Sent_l5 e_ way1 l_ K6_) o) k Q) := fun heard2 gone_2 prevented2 at_2 k_ zheard2 hzheard2 zgone_2 hzgone_2 h s hw => ⟨_, k, hw, Nat.lt_succ_self k, heard2, gone_2, prevented2, at_2, k_, zheard2, hzheard2, zgone_2, hzgone_2, h, rfl⟩
  refine Sv.seq ?_
  refine Sv.seq ?_
  refine Sv.region ?_
  refine un (a1 rfl ?_)
  refine un (a1 (v := (B (decide (0 ≤ k_)))) rfl ?_)
  refine un (a1 rfl ?_)
  refine gjoin 3 (d := 145) (v := (B ((decide (0 ≤ k_)) && e_.Bubbles))) (fun X hX => ?_) ?_
  · refine split2 (fun hc11 => ?_) (fun hc11 => ?_)
    · refine gt rfl (a1 (v := (.c (.ref 1 7 0 5))) rfl ?_)
      refine gt rfl (a1 (v := (B e_.Bubbles)) rfl ?_)
      refine un (a1 (v := (B e_.Bubbles)) rfl ?_)
      refine dnil ?_
      exact hX _ (.putEq (by rw [hc11]; rfl) (.skip _ _ (.skip _ _ (.putEq (by rw [hc11]) (.refl _)) rfl) rfl))
    · refine gs rfl rfl ?_
      refine gs rfl rfl ?_
      refine un (a1 (v := (B false)) rfl ?_)
      refine dnil ?_
      exact hX _ (.putEq (by rw [hc11]; rfl) (.skip _ _ (.skip _ _ (.putEq (by rw [hc11]) (.refl _)) rfl) rfl))
  refine dnil ?_
  refine Sv.cond (b := ((decide (0 ≤ k_)) && e_.Bubbles)) rfl (fun hc12 => ?_) (fun hc12 => ?_)
  · replace h := ifT hc12 h
    refine Sv.skip ?_
    refine Sv.seq ?_
    refine Sv.block ?_
    refine Sv.region ?_
    refine un (a1 rfl ?_)
    refine un (a1 rfl ?_)
    obtain ⟨r_5, hr5, h⟩ := bnd h
    refine un (acv_gen (bs := [7, 2, 3, 6, 4, 5]) («as» := [(I k_), (B false), (I 3), (.c (.ref 7 1 0 0)), (.c (.rop [.ro false 1 (way1.map eI)])), (.c (.rop [.ro false 8 (l_.map e_TListener)])), (.c (.rop [.str e_.f_Type, cI e_.Target, cI e_.X, cI e_.Y, .str e_.Key, cB e_.Bubbles, cB e_.Cancels])), (.c (.ref 2 1 0 0)), (.c (.ref 6 1 0 0)), (.c (.ref 4 1 0 0))]) (h2 := (upd (upd (upd (upd _ 8 none) 9 none) 0 none) 1 none)) (h1 := (upd (upd (upd (upd (upd (upd (fun _ => none) 7 (some (.cells 1 [[cB at_2]]))) 2 (some (.cells 1 [[lstC zheard2 3 3 heard2.length]]))) 3 (lstB zheard2 3 (heard2.map e_THeard))) 6 (some (.cells 1 [[cB prevented2]]))) 4 (some (.cells 1 [[lstC zgone_2 5 1 gone_2.length]]))) 5 (lstB zgone_2 1 (gone_2.map eI)))) rfl (by kernel_rfl) (clerestoryref4_Sent_fn2_ok hzheard2 hzgone_2 hr5) rfl (.cons (avAs_free rfl) (.cons (avAs_free rfl) (.cons (avAs_free rfl) (.cons (.c (.ref rfl (by decide))) (.cons (.c (ref_ro rfl (gone rfl) (.cons (lstC_ro (es := List.map eI way1) rfl (List.length_map eI).symm (map_nil_of hzway1) (gone rfl) (fr_map fun _ => rfl)) .nil) rfl)) (.cons (.c (ref_ro rfl (gone rfl) (.cons (.same rfl) .nil) rfl)) (.cons (.c (ref_ro rfl (gone rfl) (.cons (.same rfl) (.cons (.same rfl) (.cons (.same rfl) (.cons (.same rfl) (.cons (.same rfl) (.cons (.same rfl) (.cons (.same rfl) .nil))))))) rfl)) (.cons (.c (.ref rfl (by decide))) (.cons (.c (.ref rfl (by decide))) (.cons (.c (.ref rfl (by decide))) .nil)))))))))) (hsub_none (hsub_none (hsub_none (hsub_none (hsub_refl _))))) (.cons rfl (.cons rfl (.cons rfl (.cons rfl (.cons rfl (.cons rfl (.nil _))))))) (fun h => by cases h) (by decide) (by decide) (.cons (avAs_free rfl) (.cons (avAs_free rfl) (.cons (avAs_free rfl) (.cons (.c (.ref rfl (by decide))) (.cons (avAs_free rfl) (.cons (avAs_free rfl) (.cons (avAs_free rfl) (.cons (.c (.ref rfl (by decide))) (.cons (.c (.ref rfl (by decide))) (.cons (.c (.ref rfl (by decide))) .nil)))))))))) (.row (by decide) rfl (fr_map fun _ => rfl) (.box (by decide) rfl (blkAs_cells (.cons (lstC_ren rfl (by decide)) .nil)) (.box (by decide) rfl (blkAs_cells (.cons (.same rfl) .nil)) (.row (by decide) rfl (fr_map fun _ => rfl) (.box (by decide) rfl (blkAs_cells (.cons (lstC_ren rfl (by decide)) .nil)) (.box (by decide) rfl (blkAs_cells (.cons (.same rfl) .nil)) .nil)))))) ?_)
    rintro _ _ _ hn ⟨z_5, hz_5, z_6, hz_6, rfl, rfl, rfl⟩
    refine ⟨.inr ⟨(by cases z_5 <;> cases z_6 <;> rfl), (.row (cl_map fun _ => rfl) (.row (cl_map fun _ => rfl) (.box (by cases z_6 <;> rfl) (.box rfl (.box (by cases z_5 <;> rfl) (.box rfl .nil))))))⟩, (upd (upd (upd (upd (upd (upd (rem [7, 2, 3, 6, 4, 5] _) 7 (some (.cells 1 [[cB r_5.1]]))) 2 (some (.cells 1 [[lstC z_5 10 3 r_5.2.1.length]]))) 6 (some (.cells 1 [[cB r_5.2.2.1]]))) 4 (some (.cells 1 [[lstC z_6 11 1 r_5.2.2.2.length]]))) 10 (lstB z_5 3 (r_5.2.1.map e_THeard))) 11 (lstB z_6 1 (r_5.2.2.2.map eI))), fun hbd => (m3_cons (m3_row rfl (fr_map fun _ => rfl)) (m3_cons (m3_row rfl (fr_map fun _ => rfl)) (m3_cons (m3_box rfl (by cases z_6 <;> rfl)) (m3_cons (m3_box rfl rfl) (m3_cons (m3_box rfl (by cases z_5 <;> rfl)) (m3_cons (m3_box rfl rfl) (m3_rem (in_cons (by decide) (in_cons (by decide) (in_cons (by decide) (in_cons (by decide) (in_cons (by decide) (in_cons (by decide) (in_nil _))))))) (.cons (by decide) (.cons (by decide) (.cons (by decide) (.cons (by decide) (.cons (by decide) (.cons (by decide) .nil)))))) hbd))))))), (.tup []), 12, (by cases z_5 <;> cases z_6 <;> rfl), rfl, ?_⟩
    refine dnil ?_
    refine Sv.region ?_
    refine un (a1 rfl ?_)
    refine un (a1 (v := (I (wi (k_ - 1)))) rfl ?_)
    refine un (a1 rfl ?_)
    refine dnil ?_
    exact hself r_5.2.1 r_5.2.2.2 r_5.2.2.1 r_5.1 (wi (k_ - 1)) z_5 hz_5 z_6 hz_6 h _ (weak_canon [0, 1, 2, 10, 4, 11, 6, 7, 8, 9] rfl (by decide) (by decide) (fun b h => absurd h (Nat.not_lt_zero _)) (.cons rfl (avAs_free rfl) (.cons rfl (.c (fn_as .nil (.cons (.ref rfl (by decide)) (.cons (.ref rfl (by decide)) (.cons (.ref rfl (by decide)) (.cons (.ref rfl (by decide)) (.cons (.ref rfl (by decide)) (.cons (.ref rfl (by decide)) (.cons (.ref rfl (by decide)) .nil))))))))) (.cons rfl (.c (.ref rfl (by decide))) (.cons rfl (.c (.ref rfl (by decide))) (.cons rfl (.c (.ref rfl (by decide))) (.cons rfl (.c (.ref rfl (by decide))) (.cons rfl (.c (.ref rfl (by decide))) .nil))))))) (.row (by decide) rfl (fr_map fun _ => rfl) (.box (by decide) rfl (blkAs_cells (.cons (lstC_ren rfl (by decide)) .nil)) (.box (by decide) rfl (blkAs_cells (.cons (.same rfl) .nil)) (.box (by decide) rfl (blkAs_cells (.cons (.same rfl) .nil)) (.row (by decide) rfl (fr_map fun _ => rfl) (.box (by decide) rfl (blkAs_cells (.cons (lstC_ren rfl (by decide)) .nil)) (.row (by decide) rfl (fr_map fun _ => rfl) (.box (by decide) rfl (blkAs_cells (.cons (lstC_ren rfl (by decide)) .nil)) (.box (by decide) rfl (blkAs_cells (.cons (.same rfl) (.cons (.same rfl) (.cons (.same rfl) (.cons (.same rfl) (.cons (.same rfl) (.cons (.same rfl) (.cons (.same rfl) .nil)))))))) (.box (by decide) rfl (blkAs_cells (.cons (.same rfl) .nil)) .nil)))))))))))
  · replace h := ifF hc12 h
    refine Sv.exit ?_
    exact hK6 heard2 gone_2 prevented2 zheard2 hzheard2 zgone_2 hzgone_2 h _ (weak_canon [0, 2, 3, 4, 5, 6] rfl (by decide) (by decide) (fun b h => absurd h (Nat.not_lt_zero _)) (.cons rfl (.c (.ref rfl (by decide))) (.cons rfl (.c (.ref rfl (by decide))) (.cons rfl (.c (.ref rfl (by decide))) (.cons rfl (.c (.ref rfl (by decide))) .nil)))) (.box (by decide) rfl (blkAs_cells (.cons (.same rfl) .nil)) (.row (by decide) rfl (fr_map fun _ => rfl) (.box (by decide) rfl (blkAs_cells (.cons (lstC_ren rfl (by decide)) .nil)) (.row (by decide) rfl (fr_map fun _ => rfl) (.box (by decide) rfl (blkAs_cells (.cons (lstC_ren rfl (by decide)) .nil)) (.box (by decide) rfl (blkAs_cells (.cons (.same rfl) .nil)) .nil)))))))
abbrev clerestoryref4_Sent_l6_H (l_ : (List TListener)) (prevented3 : Bool) (F_ : (List THeard) → (List Int) → (List TListener) → Int → Option ((List THeard) × Bool × (List TListener) × Int)) (o : ((List THeard) × Bool × (List TListener) × Int)) (R_ : St → Prop) : Prop := ∀ (heard4 : (List THeard)) (gone_4 : (List Int)) (left : (List TListener)) (v153 : Int) (zheard4 : Bool) (_ : zheard4 = true → heard4 = []) (zgone_4 : Bool) (_ : zgone_4 = true → gone_4 = []) (zleft : Bool) (_ : zleft = true → left = []), F_ heard4 gone_4 left v153 = some o → ∀ s, Weak 0 s ⟨(upd (upd (upd (upd (upd (upd (upd (fun _ => none) 19 (some (.c (.ref 0 1 0 0)))) 20 (some (.c (.ref 2 1 0 0)))) 21 (some (.c (.ref 4 1 0 0)))) 26 (some (lstV zleft 5 8 left.length))) 151 (some (.c (.ro false 8 (l_.map e_TListener))))) 152 (some (I (l_.length : Int)))) 153 (some (I v153))), (upd (upd (upd (upd (upd (upd (fun _ => none) 0 (some (.cells 1 [[lstC zheard4 1 3 heard4.length]]))) 1 (lstB zheard4 3 (heard4.map e_THeard))) 2 (some (.cells 1 [[lstC zgone_4 3 1 gone_4.length]]))) 3 (lstB zgone_4 1 (gone_4.map eI))) 4 (some (.cells 1 [[cB prevented3]]))) 5 (lstB zleft 8 (left.map e_TListener))), 6⟩ → R_ s
abbrev clerestoryref4_Sent_l6_E8 (prevented3 : Bool) (F_ : (List THeard) → (List TListener) → Option ((List THeard) × Bool × (List TListener) × Int)) (o : ((List THeard) × Bool × (List TListener) × Int)) (R_ : St → Prop) : Prop := ∀ (heard5 : (List THeard)) (left1 : (List TListener)) (zheard5 : Bool) (_ : zheard5 = true → heard5 = []) (zleft1 : Bool) (_ : zleft1 = true → left1 = []), F_ heard5 left1 = some o → ∀ s, Weak 0 s ⟨(upd (upd (upd (fun _ => none) 19 (some (.c (.ref 0 1 0 0)))) 21 (some (.c (.ref 2 1 0 0)))) 26 (some (lstV zleft1 3 8 left1.length))), (upd (upd (upd (upd (fun _ => none) 0 (some (.cells 1 [[lstC zheard5 1 3 heard5.length]]))) 1 (lstB zheard5 3 (heard5.map e_THeard))) 2 (some (.cells 1 [[cB prevented3]]))) 3 (lstB zleft1 8 (left1.map e_TListener))), 4⟩ → R_ s
noncomputable def clerestoryref4_Sent_j3 (v153 : Int) (l_ : (List TListener)) (prevented3 : Bool) (self : (List THeard) → (List Int) → (List TListener) → Int → Option ((List THeard) × Bool × (List TListener) × Int)) (K8_ : (List THeard) → (List TListener) → Option ((List THeard) × Bool × (List TListener) × Int)) (heard6 : (List THeard)) (gone_5 : (List Int)) (left2 : (List TListener)) : Option ((List THeard) × Bool × (List TListener) × Int) :=
  self heard6 gone_5 left2 (wi (v153 + 1))
theorem clerestoryref4_Sent_j3_ok {mL : Int} {Q : AExit → St → Prop} {v153 : Int} {l_ : (List TListener)} {prevented3 : Bool} {self : (List THeard) → (List Int) → (List TListener) → Int → Option ((List THeard) × Bool × (List TListener) × Int)} {K8_ : (List THeard) → (List TListener) → Option ((List THeard) × Bool × (List TListener) × Int)} {heard6 : (List THeard)} {gone_5 : (List Int)} {left2 : (List TListener)} {zheard6 : Bool} (hzheard6 : zheard6 = true → heard6 = []) {zgone_5 : Bool} (hzgone_5 : zgone_5 = true → gone_5 = []) {zleft2 : Bool} (hzleft2 : zleft2 = true → left2 = []) {o : ((List THeard) × Bool × (List TListener) × Int)} (h : clerestoryref4_Sent_j3 v153 l_ prevented3 self K8_ heard6 gone_5 left2 = some o)
    (hself : clerestoryref4_Sent_l6_H l_ prevented3 self o (Q .normal))
    (hK8 : clerestoryref4_Sent_l6_E8 prevented3 K8_ o (Q (.exit 8)))
    (hr : ∀ s, Ends a9.results 0 (clerestoryref4_Sent_post o) .ret s → Q .ret s) :
    Sv Tryd.prog (GG mL) 0 a9_c4 Q ⟨(upd (upd (upd (upd (upd (upd (upd (fun _ => none) 19 (some (.c (.ref 0 1 0 0)))) 20 (some (.c (.ref 2 1 0 0)))) 21 (some (.c (.ref 4 1 0 0)))) 26 (some (lstV zleft2 5 8 left2.length))) 151 (some (.c (.ro false 8 (l_.map e_TListener))))) 152 (some (I (l_.length : Int)))) 153 (some (I v153))), (upd (upd (upd (upd (upd (upd (fun _ => none) 0 (some (.cells 1 [[lstC zheard6 1 3 heard6.length]]))) 1 (lstB zheard6 3 (heard6.map e_THeard))) 2 (some (.cells 1 [[lstC zgone_5 3 1 gone_5.length]]))) 3 (lstB zgone_5 1 (gone_5.map eI))) 4 (some (.cells 1 [[cB prevented3]]))) 5 (lstB zleft2 8 (left2.map e_TListener))), 6⟩ := by
  unfold clerestoryref4_Sent_j3 at h
  refine Sv.region ?_
  refine un (a1 (v := (I (wi (v153 + 1)))) rfl ?_)
  refine un (a1 rfl ?_)
  refine dnil ?_
  exact hself heard6 gone_5 left2 (wi (v153 + 1)) zheard6 hzheard6 zgone_5 hzgone_5 zleft2 hzleft2 h _ (weak_canon [0, 1, 2, 3, 4, 5] rfl (by decide) (by decide) (fun b h => absurd h (Nat.not_lt_zero _)) (.cons rfl (avAs_free rfl) (.cons rfl (avAs_free rfl) (.cons rfl (avAs_free rfl) (.cons rfl (.c (lstC_ren rfl (by decide))) (.cons rfl (.c (.ref rfl (by decide))) (.cons rfl (.c (.ref rfl (by decide))) (.cons rfl (.c (.ref rfl (by decide))) .nil))))))) (.row (by decide) rfl (fr_map fun _ => rfl) (.box (by decide) rfl (blkAs_cells (.cons (.same rfl) .nil)) (.row (by decide) rfl (fr_map fun _ => rfl) (.box (by decide) rfl (blkAs_cells (.cons (lstC_ren rfl (by decide)) .nil)) (.row (by decide) rfl (fr_map fun _ => rfl) (.box (by decide) rfl (blkAs_cells (.cons (lstC_ren rfl (by decide)) .nil)) .nil)))))))
abbrev clerestoryref4_Sent_l6_I (l_ : (List TListener)) (prevented3 : Bool) (F_ : Nat → (List THeard) → (List Int) → (List TListener) → Int → Option ((List THeard) × Bool × (List TListener) × Int)) (o : ((List THeard) × Bool × (List TListener) × Int)) : Nat → St → Prop := fun k s => ∃ (heard4 : (List THeard)), ∃ (gone_4 : (List Int)), ∃ (left : (List TListener)), ∃ (v153 : Int), ∃ (zheard4 : Bool), (zheard4 = true → heard4 = []) ∧ ∃ (zgone_4 : Bool), (zgone_4 = true → gone_4 = []) ∧ ∃ (zleft : Bool), (zleft = true → left = []) ∧ F_ k heard4 gone_4 left v153 = some o ∧ s = ⟨(upd (upd (upd (upd (upd (upd (upd (fun _ => none) 19 (some (.c (.ref 0 1 0 0)))) 20 (some (.c (.ref 2 1 0 0)))) 21 (some (.c (.ref 4 1 0 0)))) 26 (some (lstV zleft 5 8 left.length))) 151 (some (.c (.ro false 8 (l_.map e_TListener))))) 152 (some (I (l_.length : Int)))) 153 (some (I v153))), (upd (upd (upd (upd (upd (upd (fun _ => none) 0 (some (.cells 1 [[lstC zheard4 1 3 heard4.length]]))) 1 (lstB zheard4 3 (heard4.map e_THeard))) 2 (some (.cells 1 [[lstC zgone_4 3 1 gone_4.length]]))) 3 (lstB zgone_4 1 (gone_4.map eI))) 4 (some (.cells 1 [[cB prevented3]]))) 5 (lstB zleft 8 (left.map e_TListener))), 6⟩
noncomputable def clerestoryref4_Sent_l6 (l_ : (List TListener)) (prevented3 : Bool) (K8_ : (List THeard) → (List TListener) → Option ((List THeard) × Bool × (List TListener) × Int)) : Nat → (List THeard) → (List Int) → (List TListener) → Int → Option ((List THeard) × Bool × (List TListener) × Int)
  | 0, _, _, _, _ => none
  | k + 1, heard4, gone_4, left, v153 =>
    if decide (v153 < (l_.length : Int)) then
      (at? l_ v153).bind fun x_2 =>
      (slices_Contains_int gone_4 x_2.ID).bind fun r_6 =>
      if (!r_6) then
        (app? 40 left [x_2]).bind fun r_7 =>
        clerestoryref4_Sent_j3 v153 l_ prevented3 (clerestoryref4_Sent_l6 l_ prevented3 K8_ k) K8_ heard4 gone_4 r_7
      else
        clerestoryref4_Sent_j3 v153 l_ prevented3 (clerestoryref4_Sent_l6 l_ prevented3 K8_ k) K8_ heard4 gone_4 left
    else
      K8_ heard4 left
theorem clerestoryref4_Sent_l6_ok {mL : Int} {Q : AExit → St → Prop} {l_ : (List TListener)} {prevented3 : Bool} {K8_ : (List THeard) → (List TListener) → Option ((List THeard) × Bool × (List TListener) × Int)} {k : Nat} {heard4 : (List THeard)} {gone_4 : (List Int)} {left : (List TListener)} {v153 : Int} {zheard4 : Bool} (hzheard4 : zheard4 = true → heard4 = []) {zgone_4 : Bool} (hzgone_4 : zgone_4 = true → gone_4 = []) {zleft : Bool} (hzleft : zleft = true → left = []) {o : ((List THeard) × Bool × (List TListener) × Int)} (h : clerestoryref4_Sent_l6 l_ prevented3 K8_ k heard4 gone_4 left v153 = some o)
    (hK8 : clerestoryref4_Sent_l6_E8 prevented3 K8_ o (Q (.exit 8)))
    (hr : ∀ s, Ends a9.results 0 (clerestoryref4_Sent_post o) .ret s → Q .ret s) :
    Sv Tryd.prog (GG mL) 0 (.loop a9_c5) Q ⟨(upd (upd (upd (upd (upd (upd (upd (fun _ => none) 19 (some (.c (.ref 0 1 0 0)))) 20 (some (.c (.ref 2 1 0 0)))) 21 (some (.c (.ref 4 1 0 0)))) 26 (some (lstV zleft 5 8 left.length))) 151 (some (.c (.ro false 8 (l_.map e_TListener))))) 152 (some (I (l_.length : Int)))) 153 (some (I v153))), (upd (upd (upd (upd (upd (upd (fun _ => none) 0 (some (.cells 1 [[lstC zheard4 1 3 heard4.length]]))) 1 (lstB zheard4 3 (heard4.map e_THeard))) 2 (some (.cells 1 [[lstC zgone_4 3 1 gone_4.length]]))) 3 (lstB zgone_4 1 (gone_4.map eI))) 4 (some (.cells 1 [[cB prevented3]]))) 5 (lstB zleft 8 (left.map e_TListener))), 6⟩ := by
  refine Sv.loop (I := clerestoryref4_Sent_l6_I l_ prevented3 (clerestoryref4_Sent_l6 l_ prevented3 K8_) o) (fun k s hI => ?_) ⟨heard4, gone_4, left, v153, zheard4, hzheard4, zgone_4, hzgone_4, zleft, hzleft, h, rfl⟩
  clear h
  clear hzleft hzgone_4 hzheard4 zleft zgone_4 zheard4 v153 left gone_4 heard4
  obtain ⟨heard4, gone_4, left, v153, zheard4, hzheard4, zgone_4, hzgone_4, zleft, hzleft, h, rfl⟩ := hI
  cases k with
  | zero => cases h
  | succ k =>
  rw [clerestoryref4_Sent_l6] at h
  have hself : clerestoryref4_Sent_l6_H l_ prevented3 (clerestoryref4_Sent_l6 l_ prevented3 K8_ k) o (rnd 0 (clerestoryref4_Sent_l6_I l_ prevented3 (clerestoryref4_Sent_l6 l_ prevented3 K8_) o) k Q) := fun heard4 gone_4 left v153 zheard4 hzheard4 zgone_4 hzgone_4 zleft hzleft h s hw => ⟨_, k, hw, Nat.lt_succ_self k, heard4, gone_4, left, v153, zheard4, hzheard4, zgone_4, hzgone_4, zleft, hzleft, h, rfl⟩
  refine Sv.seq ?_
  refine Sv.region ?_
  refine un (a1 (v := (B (decide (v153 < (l_.length : Int))))) rfl ?_)
  refine dnil ?_
  refine Sv.seq ?_
  refine Sv.cond (b := decide (v153 < (l_.length : Int))) rfl (fun hc13 => ?_) (fun hc13 => ?_)
  · replace h := ifT hc13 h
    refine Sv.skip ?_
    refine Sv.seq ?_
    refine Sv.block ?_
    refine Sv.seq ?_
    refine Sv.region ?_
    obtain ⟨x_2, hx4, h⟩ := bnd h
    refine un (a1 (v := (.c (.rop [cI x_2.ID, cI x_2.Node, .str x_2.f_Type, cB x_2.Capture, cB x_2.Once, cB x_2.Stops, cB x_2.StopsAll, cB x_2.Prevents]))) (s_iaddr (e := e_TListener) (xs := l_) rfl rfl hx4) ?_)
    refine un (a1 (v := (.agg [cI x_2.ID, cI x_2.Node, .str x_2.f_Type, cB x_2.Capture, cB x_2.Once, cB x_2.Stops, cB x_2.StopsAll, cB x_2.Prevents])) rfl ?_)
    refine un (a2v (v := (.c (.ref 6 8 0 0))) (h' := upd _ 6 (some (.cells 8 [[cI 0, cI 0, .str [], cB false, cB false, cB false, cB false, cB false]]))) (n' := 7) rfl rfl (fun h => by cases h) ?_)
    refine un (a2n (h' := upd _ 6 (some (.cells 8 [[cI x_2.ID, cI x_2.Node, .str x_2.f_Type, cB x_2.Capture, cB x_2.Once, cB x_2.Stops, cB x_2.StopsAll, cB x_2.Prevents]]))) (n' := 7) rfl rfl (fun h => by cases h) ?_)
    refine dnil ?_
    refine Sv.seq ?_
    refine Sv.region ?_
    refine un (a1 (v := (lstV zgone_4 3 1 gone_4.length)) rfl ?_)
    refine un (a1 (v := (.c (.ref 6 8 0 0))) rfl ?_)
    refine un (a1 (v := (I x_2.ID)) rfl ?_)
    obtain ⟨r_6, hr6, h⟩ := bnd h
    refine un (ac_lend (h2 := (upd _ 3 none)) (slices_Contains_int_ok hr6) rfl (.cons (.c (lstC_ro (es := List.map eI gone_4) rfl (List.length_map eI).symm (map_nil_of hzgone_4) (gone rfl) (fr_map fun _ => rfl))) (.cons (avAs_free rfl) .nil)) (hsub_none (hsub_refl _)) rfl rfl (.inr rfl) ?_)
    refine un (a1 (v := (B (!r_6))) rfl ?_)
    refine dnil ?_
    refine Sv.cond (b := (!r_6)) rfl (fun hc14 => ?_) (fun hc14 => ?_)
    · replace h := ifT hc14 h
      refine Sv.region ?_
      refine un (a1 rfl ?_)
      refine un (a1 (v := (.agg [cI x_2.ID, cI x_2.Node, .str x_2.f_Type, cB x_2.Capture, cB x_2.Once, cB x_2.Stops, cB x_2.StopsAll, cB x_2.Prevents])) rfl ?_)
      refine un (a2v (v := (lstV false 7 8 [x_2].length)) (h' := upd _ 7 (lstB false 8 ([x_2].map e_TListener))) (n' := 8) rfl rfl (fun h => by cases h) ?_)
      obtain ⟨r_7, hr7, h⟩ := bnd h
      have hz1 : (zleft && [x_2].isEmpty) = true → r_7 = [] := app_nil (z := zleft) (ys := [x_2]) hzleft hr7
      refine un (a2v rfl (s_app (xs := left) (ys := [x_2]) (e := e_TListener) (z := zleft) (b := 5) rfl rfl hzleft rfl rfl (slc_lst rfl (List.length_map _).symm (map_nil_of (fun h => by cases h))) hr7) (fun h => by cases h) ?_)
      refine un (a1 rfl ?_)
      refine dnil ?_
      exact Sv.weak (weak_canon [0, 1, 2, 3, 4, 8] rfl (by decide) (by decide) (fun b h => absurd h (Nat.not_lt_zero _)) (.cons rfl (avAs_free rfl) (.cons rfl (avAs_free rfl) (.cons rfl (avAs_free rfl) (.cons rfl (.c (lstC_ren rfl (by decide))) (.cons rfl (.c (.ref rfl (by decide))) (.cons rfl (.c (.ref rfl (by decide))) (.cons rfl (.c (.ref rfl (by decide))) .nil))))))) (.row (by decide) rfl (fr_map fun _ => rfl) (.box (by decide) rfl (blkAs_cells (.cons (.same rfl) .nil)) (.row (by decide) rfl (fr_map fun _ => rfl) (.box (by decide) rfl (blkAs_cells (.cons (lstC_ren rfl (by decide)) .nil)) (.row (by decide) rfl (fr_map fun _ => rfl) (.box (by decide) rfl (blkAs_cells (.cons (lstC_ren rfl (by decide)) .nil)) .nil))))))) (clerestoryref4_Sent_j3_ok hzheard4 hzgone_4 hz1 h hself hK8 hr)
    · replace h := ifF hc14 h
      refine Sv.skip ?_
      exact Sv.weak (weak_canon [0, 1, 2, 3, 4, 5] rfl (by decide) (by decide) (fun b h => absurd h (Nat.not_lt_zero _)) (.cons rfl (avAs_free rfl) (.cons rfl (avAs_free rfl) (.cons rfl (avAs_free rfl) (.cons rfl (.c (lstC_ren rfl (by decide))) (.cons rfl (.c (.ref rfl (by decide))) (.cons rfl (.c (.ref rfl (by decide))) (.cons rfl (.c (.ref rfl (by decide))) .nil))))))) (.row (by decide) rfl (fr_map fun _ => rfl) (.box (by decide) rfl (blkAs_cells (.cons (.same rfl) .nil)) (.row (by decide) rfl (fr_map fun _ => rfl) (.box (by decide) rfl (blkAs_cells (.cons (lstC_ren rfl (by decide)) .nil)) (.row (by decide) rfl (fr_map fun _ => rfl) (.box (by decide) rfl (blkAs_cells (.cons (lstC_ren rfl (by decide)) .nil)) .nil))))))) (clerestoryref4_Sent_j3_ok hzheard4 hzgone_4 hzleft h hself hK8 hr)
  · replace h := ifF hc13 h
    refine Sv.exit ?_
    exact hK8 heard4 left zheard4 hzheard4 zleft hzleft h _ (weak_canon [0, 1, 4, 5] rfl (by decide) (by decide) (fun b h => absurd h (Nat.not_lt_zero _)) (.cons rfl (.c (lstC_ren rfl (by decide))) (.cons rfl (.c (.ref rfl (by decide))) (.cons rfl (.c (.ref rfl (by decide))) .nil))) (.row (by decide) rfl (fr_map fun _ => rfl) (.box (by decide) rfl (blkAs_cells (.cons (.same rfl) .nil)) (.row (by decide) rfl (fr_map fun _ => rfl) (.box (by decide) rfl (blkAs_cells (.cons (lstC_ren rfl (by decide)) .nil)) .nil)))))
/-- clerestory/clerestoryref4.Sent -/
noncomputable def clerestoryref4_Sent (d_ : TDoc) (l_ : (List TListener)) (e_ : TEvent) : Option ((List THeard) × Bool × (List TListener) × Int) :=
  (dom_Check d_).bind fun r_ =>
  if (!decide (r_ = 0)) then
    some (((clerestoryref4_Sent_fn1 r_).1), (clerestoryref4_Sent_fn1 r_).2.1, ((clerestoryref4_Sent_fn1 r_).2.2.1), (clerestoryref4_Sent_fn1 r_).2.2.2)
  else
    if decide (60 < (l_.length : Int)) then
      some (((clerestoryref4_Sent_fn1 2).1), (clerestoryref4_Sent_fn1 2).2.1, ((clerestoryref4_Sent_fn1 2).2.2.1), (clerestoryref4_Sent_fn1 2).2.2.2)
    else
      lim fun kk4 => clerestoryref4_Sent_l2 l_ d_ e_ (fun (twice1 : Bool) => 
          if twice1 then
            some (((clerestoryref4_Sent_fn1 6).1), (clerestoryref4_Sent_fn1 6).2.1, ((clerestoryref4_Sent_fn1 6).2.2.1), (clerestoryref4_Sent_fn1 6).2.2.2)
          else
            if (!(clerestoryref4_Between (e_.f_Type.length : Int) 1 40)) then
              some (((clerestoryref4_Sent_fn1 3).1), (clerestoryref4_Sent_fn1 3).2.1, ((clerestoryref4_Sent_fn1 3).2.2.1), (clerestoryref4_Sent_fn1 3).2.2.2)
            else
              (clerestoryref4_WayTo d_ e_.Target).bind fun r_2 =>
              if (!decide (r_2.2 = 0)) then
                some (((clerestoryref4_Sent_fn1 r_2.2).1), (clerestoryref4_Sent_fn1 r_2.2).2.1, ((clerestoryref4_Sent_fn1 r_2.2).2.2.1), (clerestoryref4_Sent_fn1 r_2.2).2.2.2)
              else
                lim fun kk3 => clerestoryref4_Sent_l4 r_2 l_ e_ (fun (way1 : (List Int)) (heard1 : (List THeard)) (gone_1 : (List Int)) (prevented1 : Bool) (at_1 : Bool) => 
                    (clerestoryref4_Sent_fn2 (wi ((way1.length : Int) - 1)) false 3 at_1 way1 l_ e_.f_Type e_.Target e_.X e_.Y e_.Key e_.Bubbles e_.Cancels heard1 prevented1 gone_1).bind fun r_4 =>
                    lim fun kk2 => clerestoryref4_Sent_l5 e_ way1 l_ (fun (heard3 : (List THeard)) (gone_3 : (List Int)) (prevented3 : Bool) => 
                        lim fun kk1 => clerestoryref4_Sent_l6 l_ prevented3 (fun (heard5 : (List THeard)) (left1 : (List TListener)) => 
                            some (heard5, prevented3, left1, 0)) kk1 heard3 gone_3 ([] : List TListener) 0) kk2 r_4.2.1 r_4.2.2.2 r_4.2.2.1 r_4.1 (wi ((way1.length : Int) - 2))) kk3 r_2.1 ([] : List THeard) ([] : List Int) false false 0) kk4 false 0
theorem clerestoryref4_Sent_ok {mL : Int} {d_ : TDoc} {l_ : (List TListener)} {e_ : TEvent} {r : ((List THeard) × Bool × (List TListener) × Int)} (h : clerestoryref4_Sent d_ l_ e_ = some r) : CPure Tryd.prog (GG mL) 9 [(.agg [.ro false 6 (d_.Nodes.map e_TNode), cB d_.Quirks]), (.c (.ro false 8 (l_.map e_TListener))), (.agg [.str e_.f_Type, cI e_.Target, cI e_.X, cI e_.Y, .str e_.Key, cB e_.Bubbles, cB e_.Cancels])] (.tup [(.c (.ro false 3 (r.1.map e_THeard))), (B r.2.1), (.c (.ro false 8 (r.2.2.1.map e_TListener))), (I r.2.2.2)]) := by
  refine acalls_of_sv hmix c9 (R := clerestoryref4_Sent_post r) ?_
  unfold clerestoryref4_Sent at h
  refine Sv.seq ?_
  refine Sv.region ?_
  refine un (a2v (v := (.c (.ref 0 2 0 0))) (h' := upd _ 0 (some (.cells 2 [[.ro false 6 (d_.Nodes.map e_TNode), cB d_.Quirks]]))) (n' := 1) rfl rfl (fun h => by cases h) ?_)
  refine un (a2v (v := (.c (.ref 1 1 0 0))) (h' := upd _ 1 (some (.cells 1 [[.ro false 8 (l_.map e_TListener)]]))) (n' := 2) rfl rfl (fun h => by cases h) ?_)
  refine un (a2v (v := (.c (.ref 2 7 0 0))) (h' := upd _ 2 (some (.cells 7 [[.str e_.f_Type, cI e_.Target, cI e_.X, cI e_.Y, .str e_.Key, cB e_.Bubbles, cB e_.Cancels]]))) (n' := 3) rfl rfl (fun h => by cases h) ?_)
  refine un (a1 rfl ?_)
  refine un (a1 rfl ?_)
  refine un (a1 rfl ?_)
  refine un (a1 rfl ?_)
  refine dnil ?_
  refine Sv.seq ?_
  refine Sv.region ?_
  refine un (a1 rfl ?_)
  refine dnil ?_
  refine Sv.seq ?_
  refine Sv.seq ?_
  refine Sv.region ?_
  refine un (a1 (v := (.agg [.ro false 6 (d_.Nodes.map e_TNode), cB d_.Quirks])) rfl ?_)
  obtain ⟨r_, hr1, h⟩ := bnd h
  refine un (ac_pure (dom_Check_ok hr1) rfl rfl rfl ?_)
  refine un (a1 rfl ?_)
  refine dnil ?_
  refine Sv.seq ?_
  refine Sv.region ?_
  refine un (a1 rfl ?_)
  refine un (a1 (v := (B (!decide (r_ = 0)))) rfl ?_)
  refine dnil ?_
  refine Sv.cond (b := (!decide (r_ = 0))) rfl (fun hc1 => ?_) (fun hc1 => ?_)
  · replace h := ifT hc1 h
    refine Sv.seq ?_
    refine Sv.region ?_
    refine un (a1 rfl ?_)
    refine un (a1 rfl ?_)
    refine un (acv_gen (bs := []) («as» := [(I r_)]) (h2 := _) (h1 := (fun _ => none)) rfl (by kernel_rfl) (clerestoryref4_Sent_fn1_ok (mL := mL) r_) rfl (.cons (avAs_free rfl) .nil) (hsub_refl _) (.nil _) (fun _ => rfl) (by decide) (by decide) (.cons (avAs_free rfl) .nil) .nil ?_)
    rintro _ _ _ hn ⟨rfl, rfl, rfl⟩
    refine ⟨.inl rfl, (rem [] _), fun hbd => (m3_rem (in_nil _) (.nil) hbd), (.tup [(.c (.ro false 3 (((clerestoryref4_Sent_fn1 r_).1).map e_THeard))), (B ((clerestoryref4_Sent_fn1 r_).2.1)), (.c (.ro false 8 (((clerestoryref4_Sent_fn1 r_).2.2.1).map e_TListener))), (I ((clerestoryref4_Sent_fn1 r_).2.2.2))]), 3, rfl, rfl, ?_⟩
    refine un (a1 (v := (.c (.ro false 3 (((clerestoryref4_Sent_fn1 r_).1).map e_THeard)))) rfl ?_)
    refine un (a1 (v := (B ((clerestoryref4_Sent_fn1 r_).2.1))) rfl ?_)
    refine un (a1 (v := (.c (.ro false 8 (((clerestoryref4_Sent_fn1 r_).2.2.1).map e_TListener)))) rfl ?_)
    refine un (a1 (v := (I ((clerestoryref4_Sent_fn1 r_).2.2.2))) rfl ?_)
    refine un (a1 rfl ?_)
    refine un (a1 rfl ?_)
    refine un (a1 rfl ?_)
    refine un (a1 rfl ?_)
    refine dnil ?_
    refine Sv.ret ?_
    replace h := Option.some.inj h
    subst h
    exact ⟨_, .refl _, _, rfl, ⟨upd (fun _ => none) 0 (some (.tup [(.c (.ro false 3 (((clerestoryref4_Sent_fn1 r_).1).map e_THeard))), (B ((clerestoryref4_Sent_fn1 r_).2.1)), (.c (.ro false 8 (((clerestoryref4_Sent_fn1 r_).2.2.1).map e_TListener))), (I ((clerestoryref4_Sent_fn1 r_).2.2.2))])), (fun _ => none), 0⟩, (.tup [(.c (.ro false 3 (((clerestoryref4_Sent_fn1 r_).1).map e_THeard))), (B ((clerestoryref4_Sent_fn1 r_).2.1)), (.c (.ro false 8 (((clerestoryref4_Sent_fn1 r_).2.2.1).map e_TListener))), (I ((clerestoryref4_Sent_fn1 r_).2.2.2))]), weak_canon [] rfl List.nodup_nil (Nat.le_refl _) (fun b h => absurd h (Nat.not_lt_zero _)) (.cons rfl (avAs_tup (.cons (avAs_free rfl) (.cons (avAs_free rfl) (.cons (avAs_free rfl) (.cons (avAs_free rfl) .nil))))) .nil) .nil, rfl, rfl, rfl, rfl⟩
  · replace h := ifF hc1 h
    refine Sv.skip ?_
    refine Sv.seq ?_
    refine Sv.seq ?_
    refine Sv.region ?_
    refine un (a1 (v := (.c (.ro false 8 (l_.map e_TListener)))) rfl ?_)
    refine un (a1 (v := (I (l_.length : Int))) (s_len (e := e_TListener) (xs := l_) rfl) ?_)
    refine un (a1 (v := (B (decide (60 < (l_.length : Int))))) rfl ?_)
    refine dnil ?_
    refine Sv.cond (b := decide (60 < (l_.length : Int))) rfl (fun hc2 => ?_) (fun hc2 => ?_)
    · replace h := ifT hc2 h
      refine Sv.seq ?_
      refine Sv.region ?_
      refine un (a1 rfl ?_)
      refine un (acv_gen (bs := []) («as» := [(I 2)]) (h2 := _) (h1 := (fun _ => none)) rfl (by kernel_rfl) (clerestoryref4_Sent_fn1_ok (mL := mL) 2) rfl (.cons (avAs_free rfl) .nil) (hsub_refl _) (.nil _) (fun _ => rfl) (by decide) (by decide) (.cons (avAs_free rfl) .nil) .nil ?_)
      rintro _ _ _ hn ⟨rfl, rfl, rfl⟩
      refine ⟨.inl rfl, (rem [] _), fun hbd => (m3_rem (in_nil _) (.nil) hbd), (.tup [(.c (.ro false 3 (((clerestoryref4_Sent_fn1 2).1).map e_THeard))), (B ((clerestoryref4_Sent_fn1 2).2.1)), (.c (.ro false 8 (((clerestoryref4_Sent_fn1 2).2.2.1).map e_TListener))), (I ((clerestoryref4_Sent_fn1 2).2.2.2))]), 3, rfl, rfl, ?_⟩
      refine un (a1 (v := (.c (.ro false 3 (((clerestoryref4_Sent_fn1 2).1).map e_THeard)))) rfl ?_)
      refine un (a1 (v := (B ((clerestoryref4_Sent_fn1 2).2.1))) rfl ?_)
      refine un (a1 (v := (.c (.ro false 8 (((clerestoryref4_Sent_fn1 2).2.2.1).map e_TListener)))) rfl ?_)
      refine un (a1 (v := (I ((clerestoryref4_Sent_fn1 2).2.2.2))) rfl ?_)
      refine un (a1 rfl ?_)
      refine un (a1 rfl ?_)
      refine un (a1 rfl ?_)
      refine un (a1 rfl ?_)
      refine dnil ?_
      refine Sv.ret ?_
      replace h := Option.some.inj h
      subst h
      exact ⟨_, .refl _, _, rfl, ⟨upd (fun _ => none) 0 (some (.tup [(.c (.ro false 3 (((clerestoryref4_Sent_fn1 2).1).map e_THeard))), (B ((clerestoryref4_Sent_fn1 2).2.1)), (.c (.ro false 8 (((clerestoryref4_Sent_fn1 2).2.2.1).map e_TListener))), (I ((clerestoryref4_Sent_fn1 2).2.2.2))])), (fun _ => none), 0⟩, (.tup [(.c (.ro false 3 (((clerestoryref4_Sent_fn1 2).1).map e_THeard))), (B ((clerestoryref4_Sent_fn1 2).2.1)), (.c (.ro false 8 (((clerestoryref4_Sent_fn1 2).2.2.1).map e_TListener))), (I ((clerestoryref4_Sent_fn1 2).2.2.2))]), weak_canon [] rfl List.nodup_nil (Nat.le_refl _) (fun b h => absurd h (Nat.not_lt_zero _)) (.cons rfl (avAs_tup (.cons (avAs_free rfl) (.cons (avAs_free rfl) (.cons (avAs_free rfl) (.cons (avAs_free rfl) .nil))))) .nil) .nil, rfl, rfl, rfl, rfl⟩
    · replace h := ifF hc2 h
      refine Sv.skip ?_
      refine Sv.seq ?_
      refine Sv.region ?_
      refine un (a1 rfl ?_)
      refine dnil ?_
      refine Sv.seq ?_
      refine Sv.seq ?_
      refine Sv.region ?_
      refine un (a1 (v := (.c (.ro false 8 (l_.map e_TListener)))) rfl ?_)
      refine un (a1 (v := (I (l_.length : Int))) (s_len (e := e_TListener) (xs := l_) rfl) ?_)
      refine un (a1 rfl ?_)
      refine dnil ?_
      refine Sv.block ?_
      obtain ⟨kk4, h⟩ := lim_some h
      refine Sv.weak (weak_canon [0, 1, 2] rfl (by decide) (by decide) (fun b h => absurd h (Nat.not_lt_zero _)) (.cons rfl (avAs_free rfl) (.cons rfl (avAs_free rfl) (.cons rfl (avAs_free rfl) (.cons rfl (avAs_free rfl) (.cons rfl (avAs_free rfl) (.cons rfl (.c (.ref rfl (by decide))) (.cons rfl (.c (.ref rfl (by decide))) (.cons rfl (.c (.ref rfl (by decide))) .nil)))))))) (.box (by decide) rfl (blkAs_cells (.cons (.same rfl) (.cons (.same rfl) (.cons (.same rfl) (.cons (.same rfl) (.cons (.same rfl) (.cons (.same rfl) (.cons (.same rfl) .nil)))))))) (.box (by decide) rfl (blkAs_cells (.cons (.same rfl) .nil)) (.box (by decide) rfl (blkAs_cells (.cons (.same rfl) (.cons (.same rfl) .nil))) .nil)))) (clerestoryref4_Sent_l2_ok h ?_ (fun s hs => hs))
      · intro twice1 h _ hw2
        refine Sv.weak hw2 ?_
        refine Sv.seq ?_
        refine Sv.seq ?_
        refine Sv.region ?_
        refine un (a1 rfl ?_)
        refine dnil ?_
        refine Sv.cond (b := twice1) rfl (fun hc7 => ?_) (fun hc7 => ?_)
        · replace h := ifT hc7 h
          refine Sv.seq ?_
          refine Sv.region ?_
          refine un (a1 rfl ?_)
          refine un (acv_gen (bs := []) («as» := [(I 6)]) (h2 := _) (h1 := (fun _ => none)) rfl (by kernel_rfl) (clerestoryref4_Sent_fn1_ok (mL := mL) 6) rfl (.cons (avAs_free rfl) .nil) (hsub_refl _) (.nil _) (fun _ => rfl) (by decide) (by decide) (.cons (avAs_free rfl) .nil) .nil ?_)
          rintro _ _ _ hn ⟨rfl, rfl, rfl⟩
          refine ⟨.inl rfl, (rem [] _), fun hbd => (m3_rem (in_nil _) (.nil) hbd), (.tup [(.c (.ro false 3 (((clerestoryref4_Sent_fn1 6).1).map e_THeard))), (B ((clerestoryref4_Sent_fn1 6).2.1)), (.c (.ro false 8 (((clerestoryref4_Sent_fn1 6).2.2.1).map e_TListener))), (I ((clerestoryref4_Sent_fn1 6).2.2.2))]), 3, rfl, rfl, ?_⟩
          refine un (a1 (v := (.c (.ro false 3 (((clerestoryref4_Sent_fn1 6).1).map e_THeard)))) rfl ?_)
          refine un (a1 (v := (B ((clerestoryref4_Sent_fn1 6).2.1))) rfl ?_)
          refine un (a1 (v := (.c (.ro false 8 (((clerestoryref4_Sent_fn1 6).2.2.1).map e_TListener)))) rfl ?_)
          refine un (a1 (v := (I ((clerestoryref4_Sent_fn1 6).2.2.2))) rfl ?_)
          refine un (a1 rfl ?_)
          refine un (a1 rfl ?_)
          refine un (a1 rfl ?_)
          refine un (a1 rfl ?_)
          refine dnil ?_
          refine Sv.ret ?_
          replace h := Option.some.inj h
          subst h
          exact ⟨_, .refl _, _, rfl, ⟨upd (fun _ => none) 0 (some (.tup [(.c (.ro false 3 (((clerestoryref4_Sent_fn1 6).1).map e_THeard))), (B ((clerestoryref4_Sent_fn1 6).2.1)), (.c (.ro false 8 (((clerestoryref4_Sent_fn1 6).2.2.1).map e_TListener))), (I ((clerestoryref4_Sent_fn1 6).2.2.2))])), (fun _ => none), 0⟩, (.tup [(.c (.ro false 3 (((clerestoryref4_Sent_fn1 6).1).map e_THeard))), (B ((clerestoryref4_Sent_fn1 6).2.1)), (.c (.ro false 8 (((clerestoryref4_Sent_fn1 6).2.2.1).map e_TListener))), (I ((clerestoryref4_Sent_fn1 6).2.2.2))]), weak_canon [] rfl List.nodup_nil (Nat.le_refl _) (fun b h => absurd h (Nat.not_lt_zero _)) (.cons rfl (avAs_tup (.cons (avAs_free rfl) (.cons (avAs_free rfl) (.cons (avAs_free rfl) (.cons (avAs_free rfl) .nil))))) .nil) .nil, rfl, rfl, rfl, rfl⟩
        · replace h := ifF hc7 h
          refine Sv.skip ?_
          refine Sv.seq ?_
          refine Sv.seq ?_
          refine Sv.region ?_
          refine un (a1 (v := (.c (.ref 2 7 0 0))) rfl ?_)
          refine un (a1 (v := (S e_.f_Type)) rfl ?_)
          refine un (a1 (v := (I (e_.f_Type.length : Int))) rfl ?_)
          refine un (ac_pure (clerestoryref4_Between_ok (mL := mL) (e_.f_Type.length : Int) 1 40) rfl rfl rfl ?_)
          refine un (a1 (v := (B (!(clerestoryref4_Between (e_.f_Type.length : Int) 1 40)))) rfl ?_)
          refine dnil ?_
          refine Sv.cond (b := (!(clerestoryref4_Between (e_.f_Type.length : Int) 1 40))) rfl (fun hc8 => ?_) (fun hc8 => ?_)
          · replace h := ifT hc8 h
            refine Sv.seq ?_
            refine Sv.region ?_
            refine un (a1 rfl ?_)
            refine un (acv_gen (bs := []) («as» := [(I 3)]) (h2 := _) (h1 := (fun _ => none)) rfl (by kernel_rfl) (clerestoryref4_Sent_fn1_ok (mL := mL) 3) rfl (.cons (avAs_free rfl) .nil) (hsub_refl _) (.nil _) (fun _ => rfl) (by decide) (by decide) (.cons (avAs_free rfl) .nil) .nil ?_)
            rintro _ _ _ hn ⟨rfl, rfl, rfl⟩
            refine ⟨.inl rfl, (rem [] _), fun hbd => (m3_rem (in_nil _) (.nil) hbd), (.tup [(.c (.ro false 3 (((clerestoryref4_Sent_fn1 3).1).map e_THeard))), (B ((clerestoryref4_Sent_fn1 3).2.1)), (.c (.ro false 8 (((clerestoryref4_Sent_fn1 3).2.2.1).map e_TListener))), (I ((clerestoryref4_Sent_fn1 3).2.2.2))]), 3, rfl, rfl, ?_⟩
            refine un (a1 (v := (.c (.ro false 3 (((clerestoryref4_Sent_fn1 3).1).map e_THeard)))) rfl ?_)
            refine un (a1 (v := (B ((clerestoryref4_Sent_fn1 3).2.1))) rfl ?_)
            refine un (a1 (v := (.c (.ro false 8 (((clerestoryref4_Sent_fn1 3).2.2.1).map e_TListener)))) rfl ?_)
            refine un (a1 (v := (I ((clerestoryref4_Sent_fn1 3).2.2.2))) rfl ?_)
            refine un (a1 rfl ?_)
            refine un (a1 rfl ?_)
            refine un (a1 rfl ?_)
            refine un (a1 rfl ?_)
            refine dnil ?_
            refine Sv.ret ?_
            replace h := Option.some.inj h
            subst h
            exact ⟨_, .refl _, _, rfl, ⟨upd (fun _ => none) 0 (some (.tup [(.c (.ro false 3 (((clerestoryref4_Sent_fn1 3).1).map e_THeard))), (B ((clerestoryref4_Sent_fn1 3).2.1)), (.c (.ro false 8 (((clerestoryref4_Sent_fn1 3).2.2.1).map e_TListener))), (I ((clerestoryref4_Sent_fn1 3).2.2.2))])), (fun _ => none), 0⟩, (.tup [(.c (.ro false 3 (((clerestoryref4_Sent_fn1 3).1).map e_THeard))), (B ((clerestoryref4_Sent_fn1 3).2.1)), (.c (.ro false 8 (((clerestoryref4_Sent_fn1 3).2.2.1).map e_TListener))), (I ((clerestoryref4_Sent_fn1 3).2.2.2))]), weak_canon [] rfl List.nodup_nil (Nat.le_refl _) (fun b h => absurd h (Nat.not_lt_zero _)) (.cons rfl (avAs_tup (.cons (avAs_free rfl) (.cons (avAs_free rfl) (.cons (avAs_free rfl) (.cons (avAs_free rfl) .nil))))) .nil) .nil, rfl, rfl, rfl, rfl⟩
          · replace h := ifF hc8 h
            refine Sv.skip ?_
            refine Sv.seq ?_
            refine Sv.region ?_
            refine un (a1 (v := (.agg [.ro false 6 (d_.Nodes.map e_TNode), cB d_.Quirks])) rfl ?_)
            refine un (a1 (v := (.c (.ref 2 7 0 1))) rfl ?_)
            refine un (a1 (v := (I e_.Target)) rfl ?_)
            obtain ⟨r_2, hr2, h⟩ := bnd h
            refine un (ac_gen (bs := []) («as» := [(.agg [.ro false 6 (d_.Nodes.map e_TNode), cB d_.Quirks]), (I e_.Target)]) (h2 := _) (h1 := (fun _ => none)) (clerestoryref4_WayTo_ok hr2) rfl (.cons (avAs_free rfl) (.cons (avAs_free rfl) .nil)) (hsub_refl _) (.nil _) (fun _ => rfl) (by decide) (by decide) (.cons (avAs_free rfl) (.cons (avAs_free rfl) .nil)) .nil ?_)
            rintro _ _ _ hn ⟨z_, hz_, rfl, rfl, rfl⟩
            refine ⟨.inl rfl, (upd (rem [] _) 3 (lstB z_ 1 (r_2.1.map eI))), fun hbd => (m3_cons (m3_row rfl (fr_map fun _ => rfl)) (m3_rem (in_nil _) (.cons (by decide) .nil) hbd)), (.tup [(lstV z_ 3 1 r_2.1.length), (I r_2.2)]), 4, (by cases z_ <;> rfl), rfl, ?_⟩
            refine un (a1 rfl ?_)
            refine un (a1 (v := (lstV z_ 3 1 r_2.1.length)) rfl ?_)
            refine un (a1 (v := (I r_2.2)) rfl ?_)
            refine un (a2v (v := (.c (.ref 4 1 0 0))) (h' := upd _ 4 (some (.cells 1 [[.ro true 1 []]]))) (n' := 5) rfl rfl (fun h => by cases h) ?_)
            refine un (a2n (h' := upd _ 4 (some (.cells 1 [[lstC z_ 3 1 r_2.1.length]]))) (n' := 5) rfl rfl (fun h => by cases h) ?_)
            refine un (a1 rfl ?_)
            refine dnil ?_
            refine Sv.seq ?_
            refine Sv.seq ?_
            refine Sv.region ?_
            refine un (a1 rfl ?_)
            refine un (a1 (v := (B (!decide (r_2.2 = 0)))) rfl ?_)
            refine dnil ?_
            refine Sv.cond (b := (!decide (r_2.2 = 0))) rfl (fun hc9 => ?_) (fun hc9 => ?_)
            · replace h := ifT hc9 h
              refine Sv.seq ?_
              refine Sv.region ?_
              refine un (a1 rfl ?_)
              refine un (a1 rfl ?_)
              refine un (acv_gen (bs := []) («as» := [(I r_2.2)]) (h2 := _) (h1 := (fun _ => none)) rfl (by kernel_rfl) (clerestoryref4_Sent_fn1_ok (mL := mL) r_2.2) rfl (.cons (avAs_free rfl) .nil) (hsub_refl _) (.nil _) (fun _ => rfl) (by decide) (by decide) (.cons (avAs_free rfl) .nil) .nil ?_)
              rintro _ _ _ hn ⟨rfl, rfl, rfl⟩
              refine ⟨.inl rfl, (rem [] _), fun hbd => (m3_rem (in_nil _) (.nil) hbd), (.tup [(.c (.ro false 3 (((clerestoryref4_Sent_fn1 r_2.2).1).map e_THeard))), (B ((clerestoryref4_Sent_fn1 r_2.2).2.1)), (.c (.ro false 8 (((clerestoryref4_Sent_fn1 r_2.2).2.2.1).map e_TListener))), (I ((clerestoryref4_Sent_fn1 r_2.2).2.2.2))]), 5, rfl, rfl, ?_⟩
              refine un (a1 (v := (.c (.ro false 3 (((clerestoryref4_Sent_fn1 r_2.2).1).map e_THeard)))) rfl ?_)
              refine un (a1 (v := (B ((clerestoryref4_Sent_fn1 r_2.2).2.1))) rfl ?_)
              refine un (a1 (v := (.c (.ro false 8 (((clerestoryref4_Sent_fn1 r_2.2).2.2.1).map e_TListener)))) rfl ?_)
              refine un (a1 (v := (I ((clerestoryref4_Sent_fn1 r_2.2).2.2.2))) rfl ?_)
              refine un (a1 rfl ?_)
              refine un (a1 rfl ?_)
              refine un (a1 rfl ?_)
              refine un (a1 rfl ?_)
              refine dnil ?_
              refine Sv.ret ?_
              replace h := Option.some.inj h
              subst h
              exact ⟨_, .refl _, _, rfl, ⟨upd (fun _ => none) 0 (some (.tup [(.c (.ro false 3 (((clerestoryref4_Sent_fn1 r_2.2).1).map e_THeard))), (B ((clerestoryref4_Sent_fn1 r_2.2).2.1)), (.c (.ro false 8 (((clerestoryref4_Sent_fn1 r_2.2).2.2.1).map e_TListener))), (I ((clerestoryref4_Sent_fn1 r_2.2).2.2.2))])), (fun _ => none), 0⟩, (.tup [(.c (.ro false 3 (((clerestoryref4_Sent_fn1 r_2.2).1).map e_THeard))), (B ((clerestoryref4_Sent_fn1 r_2.2).2.1)), (.c (.ro false 8 (((clerestoryref4_Sent_fn1 r_2.2).2.2.1).map e_TListener))), (I ((clerestoryref4_Sent_fn1 r_2.2).2.2.2))]), weak_canon [] rfl List.nodup_nil (Nat.le_refl _) (fun b h => absurd h (Nat.not_lt_zero _)) (.cons rfl (avAs_tup (.cons (avAs_free rfl) (.cons (avAs_free rfl) (.cons (avAs_free rfl) (.cons (avAs_free rfl) .nil))))) .nil) .nil, rfl, rfl, rfl, rfl⟩
            · replace h := ifF hc9 h
              refine Sv.skip ?_
              refine Sv.seq ?_
              refine Sv.region ?_
              refine un (a2v (v := (.c (.ref 5 1 0 0))) (h' := upd _ 5 (some (.cells 1 [[.ro true 3 []]]))) (n' := 6) rfl rfl (fun h => by cases h) ?_)
              refine dnil ?_
              refine Sv.seq ?_
              refine Sv.region ?_
              refine un (a2v (v := (.c (.ref 6 1 0 0))) (h' := upd _ 6 (some (.cells 1 [[.ro true 1 []]]))) (n' := 7) rfl rfl (fun h => by cases h) ?_)
              refine dnil ?_
              refine Sv.seq ?_
              refine Sv.region ?_
              refine un (a2v (v := (.c (.ref 7 1 0 0))) (h' := upd _ 7 (some (.cells 1 [[cB false]]))) (n' := 8) rfl rfl (fun h => by cases h) ?_)
              refine un (a2v (v := (.c (.ref 8 1 0 0))) (h' := upd _ 8 (some (.cells 1 [[cB false]]))) (n' := 9) rfl rfl (fun h => by cases h) ?_)
              refine un (a2n (h' := upd _ 7 (some (.cells 1 [[cB false]]))) (n' := 9) rfl rfl (fun h => by cases h) ?_)
              refine un (a2n (h' := upd _ 8 (some (.cells 1 [[cB false]]))) (n' := 9) rfl rfl (fun h => by cases h) ?_)
              refine dnil ?_
              refine Sv.seq ?_
              refine Sv.region ?_
              refine un (a1 (v := (.c (.fn (.func 25) [] [.ref 8 1 0 0, .ref 4 1 0 0, .ref 1 1 0 0, .ref 2 7 0 0, .ref 5 1 0 0, .ref 7 1 0 0, .ref 6 1 0 0]))) rfl ?_)
              refine un (a1 rfl ?_)
              refine dnil ?_
              refine Sv.seq ?_
              refine Sv.seq ?_
              refine Sv.region ?_
              refine un (a1 (v := (lstV z_ 3 1 r_2.1.length)) rfl ?_)
              refine un (a1 (v := (I (r_2.1.length : Int))) (s_lenL rfl (len_nil_of hz_)) ?_)
              refine un (a1 rfl ?_)
              refine dnil ?_
              refine Sv.block ?_
              obtain ⟨kk3, h⟩ := lim_some h
              refine Sv.weak (weak_canon [1, 2, 4, 3, 5, 1000, 6, 1001, 7, 8] rfl (by decide) (by decide) (fun b h => absurd h (Nat.not_lt_zero _)) (.cons rfl (avAs_free rfl) (.cons rfl (avAs_free rfl) (.cons rfl (.c (fn_as .nil (.cons (.ref rfl (by decide)) (.cons (.ref rfl (by decide)) (.cons (.ref rfl (by decide)) (.cons (.ref rfl (by decide)) (.cons (.ref rfl (by decide)) (.cons (.ref rfl (by decide)) (.cons (.ref rfl (by decide)) .nil))))))))) (.cons rfl (.c (.ref rfl (by decide))) (.cons rfl (.c (.ref rfl (by decide))) (.cons rfl (.c (.ref rfl (by decide))) (.cons rfl (.c (.ref rfl (by decide))) (.cons rfl (.c (.ref rfl (by decide))) (.cons rfl (.c (.ref rfl (by decide))) .nil))))))))) (.box (by decide) rfl (blkAs_cells (.cons (.same rfl) .nil)) (.box (by decide) rfl (blkAs_cells (.cons (.same rfl) .nil)) (.non (by decide) (.box (by decide) rfl (blkAs_cells (.cons (.same rfl) .nil)) (.non (by decide) (.box (by decide) rfl (blkAs_cells (.cons (.same rfl) .nil)) (.row (by decide) rfl (fr_map fun _ => rfl) (.box (by decide) rfl (blkAs_cells (.cons (lstC_ren rfl (by decide)) .nil)) (.box (by decide) rfl (blkAs_cells (.cons (.same rfl) (.cons (.same rfl) (.cons (.same rfl) (.cons (.same rfl) (.cons (.same rfl) (.cons (.same rfl) (.cons (.same rfl) .nil)))))))) (.box (by decide) rfl (blkAs_cells (.cons (.same rfl) .nil)) .nil))))))))))) (clerestoryref4_Sent_l4_ok hz_ (fun _ => rfl) (fun _ => rfl) h ?_ (fun s hs => hs))
              · intro way1 heard1 gone_1 prevented1 at_1 zway1 hzway1 zheard1 hzheard1 zgone_1 hzgone_1 h _ hw3
                refine Sv.weak hw3 ?_
                refine Sv.seq ?_
                refine Sv.region ?_
                refine un (a1 rfl ?_)
                refine un (a1 (v := (lstV zway1 3 1 way1.length)) rfl ?_)
                refine un (a1 (v := (I (way1.length : Int))) (s_lenL rfl (len_nil_of hzway1)) ?_)
                refine un (a1 (v := (I (wi ((way1.length : Int) - 1)))) rfl ?_)
                obtain ⟨r_4, hr4, h⟩ := bnd h
                refine un (acv_gen (bs := [9, 4, 5, 8, 6, 7]) («as» := [(I (wi ((way1.length : Int) - 1))), (B false), (I 3), (.c (.ref 9 1 0 0)), (.c (.rop [.ro false 1 (way1.map eI)])), (.c (.rop [.ro false 8 (l_.map e_TListener)])), (.c (.rop [.str e_.f_Type, cI e_.Target, cI e_.X, cI e_.Y, .str e_.Key, cB e_.Bubbles, cB e_.Cancels])), (.c (.ref 4 1 0 0)), (.c (.ref 8 1 0 0)), (.c (.ref 6 1 0 0))]) (h2 := (upd (upd (upd (upd _ 2 none) 3 none) 0 none) 1 none)) (h1 := (upd (upd (upd (upd (upd (upd (fun _ => none) 9 (some (.cells 1 [[cB at_1]]))) 4 (some (.cells 1 [[lstC zheard1 5 3 heard1.length]]))) 5 (lstB zheard1 3 (heard1.map e_THeard))) 8 (some (.cells 1 [[cB prevented1]]))) 6 (some (.cells 1 [[lstC zgone_1 7 1 gone_1.length]]))) 7 (lstB zgone_1 1 (gone_1.map eI)))) rfl (by kernel_rfl) (clerestoryref4_Sent_fn2_ok hzheard1 hzgone_1 hr4) rfl (.cons (avAs_free rfl) (.cons (avAs_free rfl) (.cons (avAs_free rfl) (.cons (.c (.ref rfl (by decide))) (.cons (.c (ref_ro rfl (gone rfl) (.cons (lstC_ro (es := List.map eI way1) rfl (List.length_map eI).symm (map_nil_of hzway1) (gone rfl) (fr_map fun _ => rfl)) .nil) rfl)) (.cons (.c (ref_ro rfl (gone rfl) (.cons (.same rfl) .nil) rfl)) (.cons (.c (ref_ro rfl (gone rfl) (.cons (.same rfl) (.cons (.same rfl) (.cons (.same rfl) (.cons (.same rfl) (.cons (.same rfl) (.cons (.same rfl) (.cons (.same rfl) .nil))))))) rfl)) (.cons (.c (.ref rfl (by decide))) (.cons (.c (.ref rfl (by decide))) (.cons (.c (.ref rfl (by decide))) .nil)))))))))) (hsub_none (hsub_none (hsub_none (hsub_none (hsub_refl _))))) (.cons rfl (.cons rfl (.cons rfl (.cons rfl (.cons rfl (.cons rfl (.nil _))))))) (fun h => by cases h) (by decide) (by decide) (.cons (avAs_free rfl) (.cons (avAs_free rfl) (.cons (avAs_free rfl) (.cons (.c (.ref rfl (by decide))) (.cons (avAs_free rfl) (.cons (avAs_free rfl) (.cons (avAs_free rfl) (.cons (.c (.ref rfl (by decide))) (.cons (.c (.ref rfl (by decide))) (.cons (.c (.ref rfl (by decide))) .nil)))))))))) (.row (by decide) rfl (fr_map fun _ => rfl) (.box (by decide) rfl (blkAs_cells (.cons (lstC_ren rfl (by decide)) .nil)) (.box (by decide) rfl (blkAs_cells (.cons (.same rfl) .nil)) (.row (by decide) rfl (fr_map fun _ => rfl) (.box (by decide) rfl (blkAs_cells (.cons (lstC_ren rfl (by decide)) .nil)) (.box (by decide) rfl (blkAs_cells (.cons (.same rfl) .nil)) .nil)))))) ?_)
                rintro _ _ _ hn ⟨z_3, hz_3, z_4, hz_4, rfl, rfl, rfl⟩
                refine ⟨.inr ⟨(by cases z_3 <;> cases z_4 <;> rfl), (.row (cl_map fun _ => rfl) (.row (cl_map fun _ => rfl) (.box (by cases z_4 <;> rfl) (.box rfl (.box (by cases z_3 <;> rfl) (.box rfl .nil))))))⟩, (upd (upd (upd (upd (upd (upd (rem [9, 4, 5, 8, 6, 7] _) 9 (some (.cells 1 [[cB r_4.1]]))) 4 (some (.cells 1 [[lstC z_3 10 3 r_4.2.1.length]]))) 8 (some (.cells 1 [[cB r_4.2.2.1]]))) 6 (some (.cells 1 [[lstC z_4 11 1 r_4.2.2.2.length]]))) 10 (lstB z_3 3 (r_4.2.1.map e_THeard))) 11 (lstB z_4 1 (r_4.2.2.2.map eI))), fun hbd => (m3_cons (m3_row rfl (fr_map fun _ => rfl)) (m3_cons (m3_row rfl (fr_map fun _ => rfl)) (m3_cons (m3_box rfl (by cases z_4 <;> rfl)) (m3_cons (m3_box rfl rfl) (m3_cons (m3_box rfl (by cases z_3 <;> rfl)) (m3_cons (m3_box rfl rfl) (m3_rem (in_cons (by decide) (in_cons (by decide) (in_cons (by decide) (in_cons (by decide) (in_cons (by decide) (in_cons (by decide) (in_nil _))))))) (.cons (by decide) (.cons (by decide) (.cons (by decide) (.cons (by decide) (.cons (by decide) (.cons (by decide) .nil)))))) hbd))))))), (.tup []), 12, (by cases z_3 <;> cases z_4 <;> rfl), rfl, ?_⟩
                refine dnil ?_
                refine Sv.seq ?_
                refine Sv.seq ?_
                refine Sv.region ?_
                refine un (a1 (v := (lstV zway1 3 1 way1.length)) rfl ?_)
                refine un (a1 (v := (I (way1.length : Int))) (s_lenL rfl (len_nil_of hzway1)) ?_)
                refine un (a1 (v := (I (wi ((way1.length : Int) - 2)))) rfl ?_)
                refine un (a1 rfl ?_)
                refine dnil ?_
                refine Sv.block ?_
                obtain ⟨kk2, h⟩ := lim_some h
                refine Sv.weak (weak_canon [0, 1, 4, 10, 6, 11, 8, 9, 2, 3] rfl (by decide) (by decide) (fun b h => absurd h (Nat.not_lt_zero _)) (.cons rfl (avAs_free rfl) (.cons rfl (.c (fn_as .nil (.cons (.ref rfl (by decide)) (.cons (.ref rfl (by decide)) (.cons (.ref rfl (by decide)) (.cons (.ref rfl (by decide)) (.cons (.ref rfl (by decide)) (.cons (.ref rfl (by decide)) (.cons (.ref rfl (by decide)) .nil))))))))) (.cons rfl (.c (.ref rfl (by decide))) (.cons rfl (.c (.ref rfl (by decide))) (.cons rfl (.c (.ref rfl (by decide))) (.cons rfl (.c (.ref rfl (by decide))) (.cons rfl (.c (.ref rfl (by decide))) .nil))))))) (.row (by decide) rfl (fr_map fun _ => rfl) (.box (by decide) rfl (blkAs_cells (.cons (lstC_ren rfl (by decide)) .nil)) (.box (by decide) rfl (blkAs_cells (.cons (.same rfl) .nil)) (.box (by decide) rfl (blkAs_cells (.cons (.same rfl) .nil)) (.row (by decide) rfl (fr_map fun _ => rfl) (.box (by decide) rfl (blkAs_cells (.cons (lstC_ren rfl (by decide)) .nil)) (.row (by decide) rfl (fr_map fun _ => rfl) (.box (by decide) rfl (blkAs_cells (.cons (lstC_ren rfl (by decide)) .nil)) (.box (by decide) rfl (blkAs_cells (.cons (.same rfl) (.cons (.same rfl) (.cons (.same rfl) (.cons (.same rfl) (.cons (.same rfl) (.cons (.same rfl) (.cons (.same rfl) .nil)))))))) (.box (by decide) rfl (blkAs_cells (.cons (.same rfl) .nil)) .nil))))))))))) (clerestoryref4_Sent_l5_ok hzway1 hz_3 hz_4 h ?_ (fun s hs => hs))
                · intro heard3 gone_3 prevented3 zheard3 hzheard3 zgone_3 hzgone_3 h _ hw4
                  refine Sv.weak hw4 ?_
                  refine Sv.seq ?_
                  refine Sv.region ?_
                  refine un (a1 rfl ?_)
                  refine dnil ?_
                  refine Sv.seq ?_
                  refine Sv.seq ?_
                  refine Sv.region ?_
                  refine un (a1 (v := (.c (.ro false 8 (l_.map e_TListener)))) rfl ?_)
                  refine un (a1 (v := (I (l_.length : Int))) (s_len (e := e_TListener) (xs := l_) rfl) ?_)
                  refine un (a1 rfl ?_)
                  refine dnil ?_
                  refine Sv.block ?_
                  obtain ⟨kk1, h⟩ := lim_some h
                  refine Sv.weak (weak_canon [1, 2, 3, 4, 5, 1000] rfl (by decide) (by decide) (fun b h => absurd h (Nat.not_lt_zero _)) (.cons rfl (avAs_free rfl) (.cons rfl (avAs_free rfl) (.cons rfl (avAs_free rfl) (.cons rfl (.c (.same rfl)) (.cons rfl (.c (.ref rfl (by decide))) (.cons rfl (.c (.ref rfl (by decide))) (.cons rfl (.c (.ref rfl (by decide))) .nil))))))) (.non (by decide) (.box (by decide) rfl (blkAs_cells (.cons (.same rfl) .nil)) (.row (by decide) rfl (fr_map fun _ => rfl) (.box (by decide) rfl (blkAs_cells (.cons (lstC_ren rfl (by decide)) .nil)) (.row (by decide) rfl (fr_map fun _ => rfl) (.box (by decide) rfl (blkAs_cells (.cons (lstC_ren rfl (by decide)) .nil)) .nil))))))) (clerestoryref4_Sent_l6_ok hzheard3 hzgone_3 (fun _ => rfl) h ?_ (fun s hs => hs))
                  · intro heard5 left1 zheard5 hzheard5 zleft1 hzleft1 h _ hw5
                    refine Sv.weak hw5 ?_
                    refine Sv.seq ?_
                    refine Sv.drawn ?_
                    refine un (a1 (v := (lstV zheard5 1 3 heard5.length)) rfl ?_)
                    refine un (a1 (v := (B prevented3)) rfl ?_)
                    refine un (a1 rfl ?_)
                    refine un (a1 rfl ?_)
                    refine un (a1 rfl ?_)
                    refine un (a1 rfl ?_)
                    refine un (a1 rfl ?_)
                    refine dnil ?_
                    refine Sv.ret ?_
                    replace h := Option.some.inj h
                    subst h
                    exact ⟨_, .refl _, _, rfl, ⟨upd (fun _ => none) 0 (some (.tup [(.c (.ro false 3 (heard5.map e_THeard))), (B prevented3), (.c (.ro false 8 (left1.map e_TListener))), (I 0)])), (fun _ => none), 0⟩, (.tup [(.c (.ro false 3 (heard5.map e_THeard))), (B prevented3), (.c (.ro false 8 (left1.map e_TListener))), (I 0)]), weak_canon [] rfl List.nodup_nil (Nat.le_refl _) (fun b h => absurd h (Nat.not_lt_zero _)) (.cons rfl (avAs_tup (.cons (.c (lstC_ro (es := List.map e_THeard heard5) rfl (List.length_map e_THeard).symm (map_nil_of hzheard5) (fun b x hx => not_in (bs := []) rfl b (((.nil) : HLt _ _) b x hx)) (fr_map fun _ => rfl))) (.cons (avAs_free rfl) (.cons (.c (lstC_ro (es := List.map e_TListener left1) rfl (List.length_map e_TListener).symm (map_nil_of hzleft1) (fun b x hx => not_in (bs := []) rfl b (((.nil) : HLt _ _) b x hx)) (fr_map fun _ => rfl))) (.cons (avAs_free rfl) .nil))))) .nil) .nil, rfl, rfl, rfl, rfl⟩
def a10_c0 : ACode := (.seq (.region [⟨(some 14), (.bin .lss (.tmp 13) (.tmp 12)), none⟩])
 (.seq (.cond (.tmp 14) .skip (.exit 0))
 (.seq (.block 1 (.seq (.region [⟨(some 15), (.mov (.tmp 13)), none⟩, ⟨(some 5), (.mov (.tmp 15)), none⟩])
 (.seq (.drawn (.fin [(⟨(some 16), (.mov (.tmp 0)), none⟩, (0, 0)), (⟨(some 17), (.mov (.tmp 5)), none⟩, (0, 1)), (⟨(some 18), (.iaddr 3 (.tmp 16) (.tmp 17)), none⟩, (0, 2)), (⟨(some 19), (.load true 3 (.tmp 18)), none⟩, (0, 3)), (⟨(some 20), (.mov (.tmp 1)), none⟩, (0, 4)), (⟨(some 21), (.mov (.tmp 5)), none⟩, (0, 5)), (⟨(some 22), (.iaddr 3 (.tmp 20) (.tmp 21)), none⟩, (0, 6)), (⟨(some 23), (.load true 3 (.tmp 22)), none⟩, (0, 7)), (⟨(some 24), (.eqs true true [.i, .i, .i] (.tmp 19) (.tmp 23)), none⟩, (0, 8))]))
 (.cond (.tmp 24) (.seq (.region [⟨(some 4), (.mov (.const (.c (.val (.bool false))))), none⟩])
 .ret) .skip))))
 (.region [⟨(some 25), (.bin .add (.tmp 13) (.const (.c (.val (.int .i64 1))))), none⟩, ⟨(some 13), (.mov (.tmp 25)), none⟩]))))
def a10 : AFunc := ⟨2, [(.tmp 4)], (.seq (.region [⟨(some 4), (.mov (.const (.c (.val (.bool false))))), none⟩])
 (.seq (.seq (.region [⟨(some 6), (.mov (.tmp 0)), none⟩, ⟨(some 7), (.len (.tmp 6)), none⟩, ⟨(some 8), (.mov (.tmp 1)), none⟩, ⟨(some 9), (.len (.tmp 8)), none⟩, ⟨(some 10), (.bin .neq (.tmp 7) (.tmp 9)), none⟩])
 (.cond (.tmp 10) (.seq (.region [⟨(some 4), (.mov (.const (.c (.val (.bool false))))), none⟩])
 .ret) .skip))
 (.seq (.seq (.region [⟨(some 11), (.mov (.tmp 0)), none⟩, ⟨(some 12), (.len (.tmp 11)), none⟩, ⟨(some 13), (.mov (.const (.c (.val (.int .i64 0))))), none⟩])
 (.block 0 (.loop a10_c0)))
 (.seq (.region [⟨(some 4), (.mov (.const (.c (.val (.bool true))))), none⟩])
 .ret))))⟩
set_option maxRecDepth 100000 in
theorem c10 : compFunc Tryd.prog 10 = some a10 := by kernel_rfl
def slices_Equal_Heard_post (r : Bool) : AV → Heap → Nat → Prop := fun v h' n' => v = (B r) ∧ (h' = (fun _ => none)) ∧ n' = 0
abbrev slices_Equal_Heard_l0_E0 (F_ : Unit → Option Bool) (o : Bool) (R_ : St → Prop) : Prop := ∀ (_ : Unit), F_ () = some o → ∀ s, Weak 0 s ⟨(fun _ => none), (fun _ => none), 0⟩ → R_ s
abbrev slices_Equal_Heard_l0_I (s1 : (List THeard)) (s2 : (List THeard)) (F_ : Nat → Int → Option Bool) (o : Bool) : Nat → St → Prop := fun k s => ∃ (v13 : Int), F_ k v13 = some o ∧ s = ⟨(upd (upd (upd (upd (fun _ => none) 0 (some (.c (.ro false 3 (s1.map e_THeard))))) 1 (some (.c (.ro false 3 (s2.map e_THeard))))) 12 (some (I (s1.length : Int)))) 13 (some (I v13))), (fun _ => none), 0⟩
abbrev slices_Equal_Heard_l0_H (s1 : (List THeard)) (s2 : (List THeard)) (F_ : Int → Option Bool) (o : Bool) (R_ : St → Prop) : Prop := ∀ (v13 : Int), F_ v13 = some o → ∀ s, Weak 0 s ⟨(upd (upd (upd (upd (fun _ => none) 0 (some (.c (.ro false 3 (s1.map e_THeard))))) 1 (some (.c (.ro false 3 (s2.map e_THeard))))) 12 (some (I (s1.length : Int)))) 13 (some (I v13))), (fun _ => none), 0⟩ → R_ s
noncomputable def slices_Equal_Heard_l0 (s1 : (List THeard)) (s2 : (List THeard)) (K0_ : Unit → Option Bool) : Nat → Int → Option Bool
  | 0, _ => none
  | k + 1, v13 =>
    if decide (v13 < (s1.length : Int)) then
      (at? s1 v13).bind fun x_ =>
      (at? s2 v13).bind fun x_1 =>
      letIn (!(decide (x_.Listener = x_1.Listener) && (decide (x_.Node = x_1.Node) && (decide (x_.Phase = x_1.Phase) && true)))) fun v24 : Bool =>
      if v24 then
        some false
      else
        (slices_Equal_Heard_l0 s1 s2 K0_ k) (wi (v13 + 1))
    else
      K0_ ()
theorem slices_Equal_Heard_l0_ok {mL : Int} {Q : AExit → St → Prop} {s1 : (List THeard)} {s2 : (List THeard)} {K0_ : Unit → Option Bool} {k : Nat} {v13 : Int} {o : Bool} (h : slices_Equal_Heard_l0 s1 s2 K0_ k v13 = some o)
    (hK0 : slices_Equal_Heard_l0_E0 K0_ o (Q (.exit 0)))
    (hr : ∀ s, Ends a10.results 0 (slices_Equal_Heard_post o) .ret s → Q .ret s) :
    Sv Tryd.prog (GG mL) 0 (.loop a10_c0) Q ⟨(upd (upd (upd (upd (fun _ => none) 0 (some (.c (.ro false 3 (s1.map e_THeard))))) 1 (some (.c (.ro false 3 (s2.map e_THeard))))) 12 (some (I (s1.length : Int)))) 13 (some (I v13))), (fun _ => none), 0⟩ := by
  refine Sv.loop (I := slices_Equal_Heard_l0_I s1 s2 (slices_Equal_Heard_l0 s1 s2 K0_) o) (fun k s hI => ?_) ⟨v13, h, rfl⟩
  clear h
  clear v13
  obtain ⟨v13, h, rfl⟩ := hI
  cases k with
  | zero => cases h
  | succ k =>
  rw [slices_Equal_Heard_l0] at h
  have hself : slices_Equal_Heard_l0_H s1 s2 (slices_Equal_Heard_l0 s1 s2 K0_ k) o (rnd 0 (slices_Equal_Heard_l0_I s1 s2 (slices_Equal_Heard_l0 s1 s2 K0_) o) k Q) := fun v13 h s hw => ⟨_, k, hw, Nat.lt_succ_self k, v13, h, rfl⟩
  refine Sv.seq ?_
  refine Sv.region ?_
  refine un (a1 (v := (B (decide (v13 < (s1.length : Int))))) rfl ?_)
  refine dnil ?_
  refine Sv.seq ?_
  refine Sv.cond (b := decide (v13 < (s1.length : Int))) rfl (fun hc2 => ?_) (fun hc2 => ?_)
  · replace h := ifT hc2 h
    refine Sv.skip ?_
    refine Sv.seq ?_
    refine Sv.block ?_
    refine Sv.seq ?_
    refine Sv.region ?_
    refine un (a1 rfl ?_)
    refine un (a1 rfl ?_)
    refine dnil ?_
    refine Sv.seq ?_
    refine Sv.drawn ?_
    refine un (a1 rfl ?_)
    refine un (a1 rfl ?_)
    obtain ⟨x_, hx1, h⟩ := bnd h
    refine un (a1 (v := (.c (.rop [cI x_.Listener, cI x_.Node, cI x_.Phase]))) (s_iaddr (e := e_THeard) (xs := s1) rfl rfl hx1) ?_)
    refine un (a1 (v := (.agg [cI x_.Listener, cI x_.Node, cI x_.Phase])) rfl ?_)
    refine un (a1 rfl ?_)
    refine un (a1 rfl ?_)
    obtain ⟨x_1, hx2, h⟩ := bnd h
    refine un (a1 (v := (.c (.rop [cI x_1.Listener, cI x_1.Node, cI x_1.Phase]))) (s_iaddr (e := e_THeard) (xs := s2) rfl rfl hx2) ?_)
    refine un (a1 (v := (.agg [cI x_1.Listener, cI x_1.Node, cI x_1.Phase])) rfl ?_)
    obtain ⟨v24, hv24⟩ : ∃ v24 : Bool, v24 = (!(decide (x_.Listener = x_1.Listener) && (decide (x_.Node = x_1.Node) && (decide (x_.Phase = x_1.Phase) && true)))) := ⟨_, rfl⟩
    replace h := letAt hv24 h
    refine un (a1 (v := (B v24)) (by rw [hv24]; rfl) ?_)
    clear hv24
    refine dnil ?_
    refine Sv.cond (b := v24) rfl (fun hc3 => ?_) (fun hc3 => ?_)
    · replace h := ifT hc3 h
      refine Sv.seq ?_
      refine Sv.region ?_
      refine un (a1 rfl ?_)
      refine dnil ?_
      refine Sv.ret ?_
      replace h := Option.some.inj h
      subst h
      exact hr _ ⟨_, .refl _, _, rfl, ⟨upd (fun _ => none) 0 (some (B false)), (fun _ => none), 0⟩, (B false), weak_canon [] rfl List.nodup_nil (Nat.le_refl _) (fun b h => absurd h (Nat.not_lt_zero _)) (.cons rfl (avAs_free rfl) .nil) .nil, rfl, rfl, rfl, rfl⟩
    · replace h := ifF hc3 h
      refine Sv.skip ?_
      refine Sv.region ?_
      refine un (a1 (v := (I (wi (v13 + 1)))) rfl ?_)
      refine un (a1 rfl ?_)
      refine dnil ?_
      exact hself (wi (v13 + 1)) h _ (weak_canon [] rfl (by decide) (by decide) (fun b h => absurd h (Nat.not_lt_zero _)) (.cons rfl (avAs_free rfl) (.cons rfl (avAs_free rfl) (.cons rfl (avAs_free rfl) (.cons rfl (avAs_free rfl) .nil)))) .nil)
  · replace h := ifF hc2 h
    refine Sv.exit ?_
    exact hK0 () h _ (weak_canon [] rfl (by decide) (by decide) (fun b h => absurd h (Nat.not_lt_zero _)) .nil .nil)
/-- slices.Equal(()clerestory/api.Heard,clerestory/api.Heard) -/
noncomputable def slices_Equal_Heard (s1 : (List THeard)) (s2 : (List THeard)) : Option Bool :=
  if (!decide ((s1.length : Int) = (s2.length : Int))) then
    some false
  else
    lim fun kk => slices_Equal_Heard_l0 s1 s2 (fun (_ : Unit) => 
        some true) kk 0
theorem slices_Equal_Heard_ok {mL : Int} {s1 : (List THeard)} {s2 : (List THeard)} {r : Bool} (h : slices_Equal_Heard s1 s2 = some r) : CPure Tryd.prog (GG mL) 10 [(.c (.ro false 3 (s1.map e_THeard))), (.c (.ro false 3 (s2.map e_THeard)))] (B r) := by
  refine acalls_of_sv hmix c10 (R := slices_Equal_Heard_post r) ?_
  unfold slices_Equal_Heard at h
  refine Sv.seq ?_
  refine Sv.region ?_
  refine un (a1 rfl ?_)
  refine dnil ?_
  refine Sv.seq ?_
  refine Sv.seq ?_
  refine Sv.region ?_
  refine un (a1 rfl ?_)
  refine un (a1 (v := (I (s1.length : Int))) (s_len (e := e_THeard) (xs := s1) rfl) ?_)
  refine un (a1 rfl ?_)
  refine un (a1 (v := (I (s2.length : Int))) (s_len (e := e_THeard) (xs := s2) rfl) ?_)
  refine un (a1 (v := (B (!decide ((s1.length : Int) = (s2.length : Int))))) rfl ?_)
  refine dnil ?_
  refine Sv.cond (b := (!decide ((s1.length : Int) = (s2.length : Int)))) rfl (fun hc1 => ?_) (fun hc1 => ?_)
  · replace h := ifT hc1 h
    refine Sv.seq ?_
    refine Sv.region ?_
    refine un (a1 rfl ?_)
    refine dnil ?_
    refine Sv.ret ?_
    replace h := Option.some.inj h
    subst h
    exact ⟨_, .refl _, _, rfl, ⟨upd (fun _ => none) 0 (some (B false)), (fun _ => none), 0⟩, (B false), weak_canon [] rfl List.nodup_nil (Nat.le_refl _) (fun b h => absurd h (Nat.not_lt_zero _)) (.cons rfl (avAs_free rfl) .nil) .nil, rfl, rfl, rfl, rfl⟩
  · replace h := ifF hc1 h
    refine Sv.skip ?_
    refine Sv.seq ?_
    refine Sv.seq ?_
    refine Sv.region ?_
    refine un (a1 rfl ?_)
    refine un (a1 (v := (I (s1.length : Int))) (s_len (e := e_THeard) (xs := s1) rfl) ?_)
    refine un (a1 rfl ?_)
    refine dnil ?_
    refine Sv.block ?_
    obtain ⟨kk, h⟩ := lim_some h
    refine Sv.weak (weak_canon [] rfl (by decide) (by decide) (fun b h => absurd h (Nat.not_lt_zero _)) (.cons rfl (avAs_free rfl) (.cons rfl (avAs_free rfl) (.cons rfl (avAs_free rfl) (.cons rfl (avAs_free rfl) .nil)))) .nil) (slices_Equal_Heard_l0_ok h ?_ (fun s hs => hs))
    · intro _ h _ hw1
      refine Sv.weak hw1 ?_
      refine Sv.seq ?_
      refine Sv.region ?_
      refine un (a1 rfl ?_)
      refine dnil ?_
      refine Sv.ret ?_
      replace h := Option.some.inj h
      subst h
      exact ⟨_, .refl _, _, rfl, ⟨upd (fun _ => none) 0 (some (B true)), (fun _ => none), 0⟩, (B true), weak_canon [] rfl List.nodup_nil (Nat.le_refl _) (fun b h => absurd h (Nat.not_lt_zero _)) (.cons rfl (avAs_free rfl) .nil) .nil, rfl, rfl, rfl, rfl⟩
def a11_c0 : ACode := (.seq (.region [⟨(some 14), (.bin .lss (.tmp 13) (.tmp 12)), none⟩])
 (.seq (.cond (.tmp 14) .skip (.exit 0))
 (.seq (.block 1 (.seq (.region [⟨(some 15), (.mov (.tmp 13)), none⟩, ⟨(some 5), (.mov (.tmp 15)), none⟩])
 (.seq (.drawn (.fin [(⟨(some 16), (.mov (.tmp 0)), none⟩, (0, 0)), (⟨(some 17), (.mov (.tmp 5)), none⟩, (0, 1)), (⟨(some 18), (.iaddr 8 (.tmp 16) (.tmp 17)), none⟩, (0, 2)), (⟨(some 19), (.load true 8 (.tmp 18)), none⟩, (0, 3)), (⟨(some 20), (.mov (.tmp 1)), none⟩, (0, 4)), (⟨(some 21), (.mov (.tmp 5)), none⟩, (0, 5)), (⟨(some 22), (.iaddr 8 (.tmp 20) (.tmp 21)), none⟩, (0, 6)), (⟨(some 23), (.load true 8 (.tmp 22)), none⟩, (0, 7)), (⟨(some 24), (.eqs true true [.i, .i, .s, .b, .b, .b, .b, .b] (.tmp 19) (.tmp 23)), none⟩, (0, 8))]))
 (.cond (.tmp 24) (.seq (.region [⟨(some 4), (.mov (.const (.c (.val (.bool false))))), none⟩])
 .ret) .skip))))
 (.region [⟨(some 25), (.bin .add (.tmp 13) (.const (.c (.val (.int .i64 1))))), none⟩, ⟨(some 13), (.mov (.tmp 25)), none⟩]))))
def a11 : AFunc := ⟨2, [(.tmp 4)], (.seq (.region [⟨(some 4), (.mov (.const (.c (.val (.bool false))))), none⟩])
 (.seq (.seq (.region [⟨(some 6), (.mov (.tmp 0)), none⟩, ⟨(some 7), (.len (.tmp 6)), none⟩, ⟨(some 8), (.mov (.tmp 1)), none⟩, ⟨(some 9), (.len (.tmp 8)), none⟩, ⟨(some 10), (.bin .neq (.tmp 7) (.tmp 9)), none⟩])
 (.cond (.tmp 10) (.seq (.region [⟨(some 4), (.mov (.const (.c (.val (.bool false))))), none⟩])
 .ret) .skip))
 (.seq (.seq (.region [⟨(some 11), (.mov (.tmp 0)), none⟩, ⟨(some 12), (.len (.tmp 11)), none⟩, ⟨(some 13), (.mov (.const (.c (.val (.int .i64 0))))), none⟩])
 (.block 0 (.loop a11_c0)))
 (.seq (.region [⟨(some 4), (.mov (.const (.c (.val (.bool true))))), none⟩])
 .ret))))⟩
set_option maxRecDepth 100000 in
theorem c11 : compFunc Tryd.prog 11 = some a11 := by kernel_rfl
def slices_Equal_Listener_post (r : Bool) : AV → Heap → Nat → Prop := fun v h' n' => v = (B r) ∧ (h' = (fun _ => none)) ∧ n' = 0
abbrev slices_Equal_Listener_l0_E0 (F_ : Unit → Option Bool) (o : Bool) (R_ : St → Prop) : Prop := ∀ (_ : Unit), F_ () = some o → ∀ s, Weak 0 s ⟨(fun _ => none), (fun _ => none), 0⟩ → R_ s
abbrev slices_Equal_Listener_l0_I (s1 : (List TListener)) (s2 : (List TListener)) (F_ : Nat → Int → Option Bool) (o : Bool) : Nat → St → Prop := fun k s => ∃ (v13 : Int), F_ k v13 = some o ∧ s = ⟨(upd (upd (upd (upd (fun _ => none) 0 (some (.c (.ro false 8 (s1.map e_TListener))))) 1 (some (.c (.ro false 8 (s2.map e_TListener))))) 12 (some (I (s1.length : Int)))) 13 (some (I v13))), (fun _ => none), 0⟩
abbrev slices_Equal_Listener_l0_H (s1 : (List TListener)) (s2 : (List TListener)) (F_ : Int → Option Bool) (o : Bool) (R_ : St → Prop) : Prop := ∀ (v13 : Int), F_ v13 = some o → ∀ s, Weak 0 s ⟨(upd (upd (upd (upd (fun _ => none) 0 (some (.c (.ro false 8 (s1.map e_TListener))))) 1 (some (.c (.ro false 8 (s2.map e_TListener))))) 12 (some (I (s1.length : Int)))) 13 (some (I v13))), (fun _ => none), 0⟩ → R_ s
noncomputable def slices_Equal_Listener_l0 (s1 : (List TListener)) (s2 : (List TListener)) (K0_ : Unit → Option Bool) : Nat → Int → Option Bool
  | 0, _ => none
  | k + 1, v13 =>
    if decide (v13 < (s1.length : Int)) then
      (at? s1 v13).bind fun x_ =>
      (at? s2 v13).bind fun x_1 =>
      letIn (!(decide (x_.ID = x_1.ID) && (decide (x_.Node = x_1.Node) && (decide (x_.f_Type = x_1.f_Type) && ((x_.Capture == x_1.Capture) && ((x_.Once == x_1.Once) && ((x_.Stops == x_1.Stops) && ((x_.StopsAll == x_1.StopsAll) && ((x_.Prevents == x_1.Prevents) && true))))))))) fun v24 : Bool =>
      if v24 then
        some false
      else
        (slices_Equal_Listener_l0 s1 s2 K0_ k) (wi (v13 + 1))
    else
      K0_ ()
theorem slices_Equal_Listener_l0_ok {mL : Int} {Q : AExit → St → Prop} {s1 : (List TListener)} {s2 : (List TListener)} {K0_ : Unit → Option Bool} {k : Nat} {v13 : Int} {o : Bool} (h : slices_Equal_Listener_l0 s1 s2 K0_ k v13 = some o)
    (hK0 : slices_Equal_Listener_l0_E0 K0_ o (Q (.exit 0)))
    (hr : ∀ s, Ends a11.results 0 (slices_Equal_Listener_post o) .ret s → Q .ret s) :
    Sv Tryd.prog (GG mL) 0 (.loop a11_c0) Q ⟨(upd (upd (upd (upd (fun _ => none) 0 (some (.c (.ro false 8 (s1.map e_TListener))))) 1 (some (.c (.ro false 8 (s2.map e_TListener))))) 12 (some (I (s1.length : Int)))) 13 (some (I v13))), (fun _ => none), 0⟩ := by
  refine Sv.loop (I := slices_Equal_Listener_l0_I s1 s2 (slices_Equal_Listener_l0 s1 s2 K0_) o) (fun k s hI => ?_) ⟨v13, h, rfl⟩
  clear h
  clear v13
  obtain ⟨v13, h, rfl⟩ := hI
  cases k with
  | zero => cases h
  | succ k =>
  rw [slices_Equal_Listener_l0] at h
  have hself : slices_Equal_Listener_l0_H s1 s2 (slices_Equal_Listener_l0 s1 s2 K0_ k) o (rnd 0 (slices_Equal_Listener_l0_I s1 s2 (slices_Equal_Listener_l0 s1 s2 K0_) o) k Q) := fun v13 h s hw => ⟨_, k, hw, Nat.lt_succ_self k, v13, h, rfl⟩
  refine Sv.seq ?_
  refine Sv.region ?_
  refine un (a1 (v := (B (decide (v13 < (s1.length : Int))))) rfl ?_)
  refine dnil ?_
  refine Sv.seq ?_
  refine Sv.cond (b := decide (v13 < (s1.length : Int))) rfl (fun hc2 => ?_) (fun hc2 => ?_)
  · replace h := ifT hc2 h
    refine Sv.skip ?_
    refine Sv.seq ?_
    refine Sv.block ?_
    refine Sv.seq ?_
    refine Sv.region ?_
    refine un (a1 rfl ?_)
    refine un (a1 rfl ?_)
    refine dnil ?_
    refine Sv.seq ?_
    refine Sv.drawn ?_
    refine un (a1 rfl ?_)
    refine un (a1 rfl ?_)
    obtain ⟨x_, hx1, h⟩ := bnd h
    refine un (a1 (v := (.c (.rop [cI x_.ID, cI x_.Node, .str x_.f_Type, cB x_.Capture, cB x_.Once, cB x_.Stops, cB x_.StopsAll, cB x_.Prevents]))) (s_iaddr (e := e_TListener) (xs := s1) rfl rfl hx1) ?_)
    refine un (a1 (v := (.agg [cI x_.ID, cI x_.Node, .str x_.f_Type, cB x_.Capture, cB x_.Once, cB x_.Stops, cB x_.StopsAll, cB x_.Prevents])) rfl ?_)
    refine un (a1 rfl ?_)
    refine un (a1 rfl ?_)
    obtain ⟨x_1, hx2, h⟩ := bnd h
    refine un (a1 (v := (.c (.rop [cI x_1.ID, cI x_1.Node, .str x_1.f_Type, cB x_1.Capture, cB x_1.Once, cB x_1.Stops, cB x_1.StopsAll, cB x_1.Prevents]))) (s_iaddr (e := e_TListener) (xs := s2) rfl rfl hx2) ?_)
    refine un (a1 (v := (.agg [cI x_1.ID, cI x_1.Node, .str x_1.f_Type, cB x_1.Capture, cB x_1.Once, cB x_1.Stops, cB x_1.StopsAll, cB x_1.Prevents])) rfl ?_)
    obtain ⟨v24, hv24⟩ : ∃ v24 : Bool, v24 = (!(decide (x_.ID = x_1.ID) && (decide (x_.Node = x_1.Node) && (decide (x_.f_Type = x_1.f_Type) && ((x_.Capture == x_1.Capture) && ((x_.Once == x_1.Once) && ((x_.Stops == x_1.Stops) && ((x_.StopsAll == x_1.StopsAll) && ((x_.Prevents == x_1.Prevents) && true))))))))) := ⟨_, rfl⟩
    replace h := letAt hv24 h
    refine un (a1 (v := (B v24)) (by rw [hv24]; rfl) ?_)
    clear hv24
    refine dnil ?_
    refine Sv.cond (b := v24) rfl (fun hc3 => ?_) (fun hc3 => ?_)
    · replace h := ifT hc3 h
      refine Sv.seq ?_
      refine Sv.region ?_
      refine un (a1 rfl ?_)
      refine dnil ?_
      refine Sv.ret ?_
      replace h := Option.some.inj h
      subst h
      exact hr _ ⟨_, .refl _, _, rfl, ⟨upd (fun _ => none) 0 (some (B false)), (fun _ => none), 0⟩, (B false), weak_canon [] rfl List.nodup_nil (Nat.le_refl _) (fun b h => absurd h (Nat.not_lt_zero _)) (.cons rfl (avAs_free rfl) .nil) .nil, rfl, rfl, rfl, rfl⟩
    · replace h := ifF hc3 h
      refine Sv.skip ?_
      refine Sv.region ?_
      refine un (a1 (v := (I (wi (v13 + 1)))) rfl ?_)
      refine un (a1 rfl ?_)
      refine dnil ?_
      exact hself (wi (v13 + 1)) h _ (weak_canon [] rfl (by decide) (by decide) (fun b h => absurd h (Nat.not_lt_zero _)) (.cons rfl (avAs_free rfl) (.cons rfl (avAs_free rfl) (.cons rfl (avAs_free rfl) (.cons rfl (avAs_free rfl) .nil)))) .nil)
  · replace h := ifF hc2 h
    refine Sv.exit ?_
    exact hK0 () h _ (weak_canon [] rfl (by decide) (by decide) (fun b h => absurd h (Nat.not_lt_zero _)) .nil .nil)
/-- slices.Equal(()clerestory/api.Listener,clerestory/api.Listener) -/
noncomputable def slices_Equal_Listener (s1 : (List TListener)) (s2 : (List TListener)) : Option Bool :=
  if (!decide ((s1.length : Int) = (s2.length : Int))) then
    some false
  else
    lim fun kk => slices_Equal_Listener_l0 s1 s2 (fun (_ : Unit) => 
        some true) kk 0
theorem slices_Equal_Listener_ok {mL : Int} {s1 : (List TListener)} {s2 : (List TListener)} {r : Bool} (h : slices_Equal_Listener s1 s2 = some r) : CPure Tryd.prog (GG mL) 11 [(.c (.ro false 8 (s1.map e_TListener))), (.c (.ro false 8 (s2.map e_TListener)))] (B r) := by
  refine acalls_of_sv hmix c11 (R := slices_Equal_Listener_post r) ?_
  unfold slices_Equal_Listener at h
  refine Sv.seq ?_
  refine Sv.region ?_
  refine un (a1 rfl ?_)
  refine dnil ?_
  refine Sv.seq ?_
  refine Sv.seq ?_
  refine Sv.region ?_
  refine un (a1 rfl ?_)
  refine un (a1 (v := (I (s1.length : Int))) (s_len (e := e_TListener) (xs := s1) rfl) ?_)
  refine un (a1 rfl ?_)
  refine un (a1 (v := (I (s2.length : Int))) (s_len (e := e_TListener) (xs := s2) rfl) ?_)
  refine un (a1 (v := (B (!decide ((s1.length : Int) = (s2.length : Int))))) rfl ?_)
  refine dnil ?_
  refine Sv.cond (b := (!decide ((s1.length : Int) = (s2.length : Int)))) rfl (fun hc1 => ?_) (fun hc1 => ?_)
  · replace h := ifT hc1 h
    refine Sv.seq ?_
    refine Sv.region ?_
    refine un (a1 rfl ?_)
    refine dnil ?_
    refine Sv.ret ?_
    replace h := Option.some.inj h
    subst h
    exact ⟨_, .refl _, _, rfl, ⟨upd (fun _ => none) 0 (some (B false)), (fun _ => none), 0⟩, (B false), weak_canon [] rfl List.nodup_nil (Nat.le_refl _) (fun b h => absurd h (Nat.not_lt_zero _)) (.cons rfl (avAs_free rfl) .nil) .nil, rfl, rfl, rfl, rfl⟩
  · replace h := ifF hc1 h
    refine Sv.skip ?_
    refine Sv.seq ?_
    refine Sv.seq ?_
    refine Sv.region ?_
    refine un (a1 rfl ?_)
    refine un (a1 (v := (I (s1.length : Int))) (s_len (e := e_TListener) (xs := s1) rfl) ?_)
    refine un (a1 rfl ?_)
    refine dnil ?_
    refine Sv.block ?_
    obtain ⟨kk, h⟩ := lim_some h
    refine Sv.weak (weak_canon [] rfl (by decide) (by decide) (fun b h => absurd h (Nat.not_lt_zero _)) (.cons rfl (avAs_free rfl) (.cons rfl (avAs_free rfl) (.cons rfl (avAs_free rfl) (.cons rfl (avAs_free rfl) .nil)))) .nil) (slices_Equal_Listener_l0_ok h ?_ (fun s hs => hs))
    · intro _ h _ hw1
      refine Sv.weak hw1 ?_
      refine Sv.seq ?_
      refine Sv.region ?_
      refine un (a1 rfl ?_)
      refine dnil ?_
      refine Sv.ret ?_
      replace h := Option.some.inj h
      subst h
      exact ⟨_, .refl _, _, rfl, ⟨upd (fun _ => none) 0 (some (B true)), (fun _ => none), 0⟩, (B true), weak_canon [] rfl List.nodup_nil (Nat.le_refl _) (fun b h => absurd h (Nat.not_lt_zero _)) (.cons rfl (avAs_free rfl) .nil) .nil, rfl, rfl, rfl, rfl⟩
end Go.Proofs.YtoomjemboekooaaDoorBv
