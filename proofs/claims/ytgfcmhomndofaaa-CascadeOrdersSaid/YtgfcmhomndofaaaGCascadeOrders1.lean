/- Printed by a program of mine (bgen.py): plain functions, and the walks that show that the code comes to what they answer. -/
import Derived.Test.YtgfcmhomndofaaaGCascadeOrders0
namespace Go.Proofs.YtgfcmhomndofaaaBv
open Go
set_option linter.unusedVariables false
set_option maxRecDepth 100000
def a32_c1 : ACode := (.cond (.tmp 31) .skip (.exit 2))
def a32_c2 : ACode := (.block 3 (.region [⟨(some 32), (.mov (.tmp 5)), none⟩, ⟨(some 33), (.bin .sub (.tmp 32) (.const (.c (.val (.int .i64 1))))), none⟩, ⟨(some 5), (.mov (.tmp 33)), none⟩]))
def a32_c0 : ACode := (.seq (.seq (.drawn (.fin [(⟨(some 15), (.mov (.tmp 5)), none⟩, (0, 0)), (⟨(some 16), (.bin .gtr (.tmp 15) (.const (.c (.val (.int .i64 0))))), none⟩, (0, 1)), (⟨(some 17), (.mov (.tmp 16)), none⟩, (0, 2)), (⟨(some 18), (.mov (.tmp 0)), (some (17, true))⟩, (0, 3)), (⟨(some 19), (.mov (.tmp 4)), (some (17, true))⟩, (0, 4)), (⟨(some 20), (.iaddr 6 (.tmp 18) (.tmp 19)), (some (17, true))⟩, (0, 5)), (⟨(some 21), (.load true 6 (.tmp 20)), (some (17, true))⟩, (0, 6)), (⟨(some 22), (.mov (.tmp 0)), (some (17, true))⟩, (0, 7)), (⟨(some 23), (.mov (.tmp 3)), (some (17, true))⟩, (0, 8)), (⟨(some 24), (.mov (.tmp 5)), (some (17, true))⟩, (0, 9)), (⟨(some 25), (.bin .sub (.tmp 24) (.const (.c (.val (.int .i64 1))))), (some (17, true))⟩, (0, 10)), (⟨(some 26), (.iaddr 1 (.tmp 23) (.tmp 25)), (some (17, true))⟩, (0, 11)), (⟨(some 27), (.load false 1 (.tmp 26)), (some (17, true))⟩, (0, 12)), (⟨(some 28), (.iaddr 6 (.tmp 22) (.tmp 27)), (some (17, true))⟩, (0, 13)), (⟨(some 29), (.load true 6 (.tmp 28)), (some (17, true))⟩, (0, 14)), (⟨(some 30), (.call 34 [(.tmp 21), (.tmp 29)]), (some (17, true))⟩, (2, 15)), (⟨(some 31), (.pick (.tmp 17) (.tmp 30) (.const (.c (.val (.bool false))))), none⟩, (0, 16))]))
 a32_c1)
 a32_c2)
def a32_c3 : ACode := (.seq (.seq (.region [⟨(some 7), (.mov (.tmp 4)), none⟩, ⟨(some 8), (.mov (.tmp 0)), none⟩, ⟨(some 9), (.len (.tmp 8)), none⟩, ⟨(some 10), (.bin .lss (.tmp 7) (.tmp 9)), none⟩])
 (.cond (.tmp 10) .skip (.exit 0)))
 (.seq (.block 1 (.seq (.region [⟨(some 13), (.mov (.tmp 3)), none⟩, ⟨(some 14), (.len (.tmp 13)), none⟩, ⟨(some 5), (.mov (.tmp 14)), none⟩])
 (.seq (.block 2 (.loop a32_c0))
 (.seq (.region [⟨(some 34), (.bslice 1 [(.val (.int .i64 0))] 0 []), none⟩, ⟨(some 35), (.mov (.tmp 3)), none⟩, ⟨(some 36), (.mov (.tmp 5)), none⟩, ⟨(some 37), (.slSl 1 (.tmp 35) none (some (.tmp 36)) none), none⟩, ⟨(some 38), (.app 1 8 (.tmp 34) (.tmp 37)), none⟩, ⟨(some 6), (.mov (.tmp 38)), none⟩])
 (.seq (.region [⟨(some 39), (.mov (.tmp 6)), none⟩, ⟨(some 40), (.mov (.tmp 4)), none⟩, ⟨(some 41), (.bslice 1 [(.val (.int .i64 0))] 1 [(0, (.tmp 40))]), none⟩, ⟨(some 42), (.app 1 8 (.tmp 39) (.tmp 41)), none⟩, ⟨(some 6), (.mov (.tmp 42)), none⟩])
 (.region [⟨(some 43), (.mov (.tmp 6)), none⟩, ⟨(some 44), (.mov (.tmp 3)), none⟩, ⟨(some 45), (.mov (.tmp 5)), none⟩, ⟨(some 46), (.slSl 1 (.tmp 44) (some (.tmp 45)) none none), none⟩, ⟨(some 47), (.app 1 8 (.tmp 43) (.tmp 46)), none⟩, ⟨(some 3), (.mov (.tmp 47)), none⟩]))))))
 (.region [⟨(some 11), (.mov (.tmp 4)), none⟩, ⟨(some 12), (.bin .add (.tmp 11) (.const (.c (.val (.int .i64 1))))), none⟩, ⟨(some 4), (.mov (.tmp 12)), none⟩])))
def a32 : AFunc := ⟨1, [(.tmp 2)], (.seq (.region [⟨(some 2), (.mov (.const (.c (.ro true 1 [])))), none⟩])
 (.seq (.region [⟨(some 3), (.mov (.const (.c (.ro true 1 [])))), none⟩])
 (.seq (.seq (.region [⟨(some 4), (.mov (.const (.c (.val (.int .i64 0))))), none⟩])
 (.block 0 (.loop a32_c3)))
 (.seq (.region [⟨(some 48), (.mov (.tmp 3)), none⟩, ⟨(some 2), (.mov (.tmp 48)), none⟩])
 .ret))))⟩
set_option maxRecDepth 100000 in
theorem c32 : compFunc Try.prog 32 = some a32 := by kernel_rfl
def clerestoryref2_OrderOf_post (r : (List Int)) : AV → Heap → Nat → Prop := fun v h' n' => ∃ z0 : Bool, (z0 = true → r = []) ∧ v = (lstV z0 0 1 r.length) ∧ (h' = (upd (fun _ => none) 0 (lstB z0 1 (r.map eI)))) ∧ n' = 1
abbrev clerestoryref2_OrderOf_q0 (Γ : Glob) (Q : AExit → St → Prop) : AExit → St → Prop := AThen (Sv Try.prog Γ 0 a32_c2 Q) Q
noncomputable def clerestoryref2_OrderOf_j6 (k_ : Int) (l_ : (List TSGiven)) (i_ : Int) (self : (List Int) → Int → Option (List Int)) (K2_ : (List Int) → Int → Option (List Int)) (out4 : (List Int)) (v31 : Bool) : Option (List Int) :=
  if v31 then
    self out4 (wi (k_ - 1))
  else
    K2_ out4 k_
theorem clerestoryref2_OrderOf_j6_ok {Γ : Glob} {Q : AExit → St → Prop} {k_ : Int} {l_ : (List TSGiven)} {i_ : Int} {self : (List Int) → Int → Option (List Int)} {K2_ : (List Int) → Int → Option (List Int)} {out4 : (List Int)} {v31 : Bool} {zout4 : Bool} (hzout4 : zout4 = true → out4 = []) {o : (List Int)} (h : clerestoryref2_OrderOf_j6 k_ l_ i_ self K2_ out4 v31 = some o)
    (hself : ∀ (out2 : (List Int)) (k_ : Int) (zout2 : Bool) (_ : zout2 = true → out2 = []), self out2 k_ = some o → ∀ s, Weak 0 s ⟨(upd (upd (upd (upd (fun _ => none) 0 (some (.c (.ro false 6 (l_.map e_TSGiven))))) 3 (some (lstV zout2 0 1 out2.length))) 4 (some (I i_))) 5 (some (I k_))), (upd (fun _ => none) 0 (lstB zout2 1 (out2.map eI))), 1⟩ → (Q) .normal s)
    (hK2 : ∀ (out3 : (List Int)) (k_1 : Int) (zout3 : Bool) (_ : zout3 = true → out3 = []), K2_ out3 k_1 = some o → ∀ s, Weak 0 s ⟨(upd (upd (upd (upd (fun _ => none) 0 (some (.c (.ro false 6 (l_.map e_TSGiven))))) 3 (some (lstV zout3 0 1 out3.length))) 4 (some (I i_))) 5 (some (I k_1))), (upd (fun _ => none) 0 (lstB zout3 1 (out3.map eI))), 1⟩ → Q (.exit 2) s)
    (hr : ∀ s, Ends a32.results 0 (clerestoryref2_OrderOf_post o) .ret s → Q .ret s) :
    Sv Try.prog Γ 0 a32_c1 (clerestoryref2_OrderOf_q0 Γ Q) ⟨(upd (upd (upd (upd (upd (fun _ => none) 0 (some (.c (.ro false 6 (l_.map e_TSGiven))))) 3 (some (lstV zout4 0 1 out4.length))) 4 (some (I i_))) 5 (some (I k_))) 31 (some (B v31))), (upd (fun _ => none) 0 (lstB zout4 1 (out4.map eI))), 1⟩ := by
  unfold clerestoryref2_OrderOf_j6 at h
  refine Sv.cond (b := v31) rfl (fun hc2 => ?_) (fun hc2 => ?_)
  · replace h := ifT hc2 h
    refine Sv.skip ?_
    refine Sv.block ?_
    refine Sv.region ?_
    refine un (a1 rfl ?_)
    refine un (a1 (v := (I (wi (k_ - 1)))) rfl ?_)
    refine un (a1 rfl ?_)
    refine dnil ?_
    exact hself out4 (wi (k_ - 1)) zout4 hzout4 h _ (weak_canon [0] rfl (by decide) (by decide) (fun b h => absurd h (Nat.not_lt_zero _)) (.cons rfl (avAs_free rfl) (.cons rfl (avAs_free rfl) (.cons rfl (.c (lstC_ren rfl (by decide))) (.cons rfl (avAs_free rfl) .nil)))) (.row (by decide) rfl (fr_map fun _ => rfl) .nil))
  · replace h := ifF hc2 h
    refine Sv.exit ?_
    exact hK2 out4 k_ zout4 hzout4 h _ (weak_canon [0] rfl (by decide) (by decide) (fun b h => absurd h (Nat.not_lt_zero _)) (.cons rfl (avAs_free rfl) (.cons rfl (avAs_free rfl) (.cons rfl (.c (lstC_ren rfl (by decide))) (.cons rfl (avAs_free rfl) .nil)))) (.row (by decide) rfl (fr_map fun _ => rfl) .nil))
noncomputable def clerestoryref2_OrderOf_l3 (l_ : (List TSGiven)) (i_ : Int) (K2_ : (List Int) → Int → Option (List Int)) : Nat → (List Int) → Int → Option (List Int)
  | 0, _, _ => none
  | k + 1, out2, k_ =>
    if decide (0 < k_) then
      (at? l_ i_).bind fun x_ =>
      (at? out2 (wi (k_ - 1))).bind fun x_1 =>
      (at? l_ x_1).bind fun x_2 =>
      clerestoryref2_OrderOf_j6 k_ l_ i_ (clerestoryref2_OrderOf_l3 l_ i_ K2_ k) K2_ out2 (clerestoryref2_Later x_ x_2)
    else
      clerestoryref2_OrderOf_j6 k_ l_ i_ (clerestoryref2_OrderOf_l3 l_ i_ K2_ k) K2_ out2 false
theorem clerestoryref2_OrderOf_l3_ok {Γ : Glob} {Q : AExit → St → Prop} {l_ : (List TSGiven)} {i_ : Int} {K2_ : (List Int) → Int → Option (List Int)} {k : Nat} {out2 : (List Int)} {k_ : Int} {zout2 : Bool} (hzout2 : zout2 = true → out2 = []) {o : (List Int)} (h : clerestoryref2_OrderOf_l3 l_ i_ K2_ k out2 k_ = some o)
    (hK2 : ∀ (out3 : (List Int)) (k_1 : Int) (zout3 : Bool) (_ : zout3 = true → out3 = []), K2_ out3 k_1 = some o → ∀ s, Weak 0 s ⟨(upd (upd (upd (upd (fun _ => none) 0 (some (.c (.ro false 6 (l_.map e_TSGiven))))) 3 (some (lstV zout3 0 1 out3.length))) 4 (some (I i_))) 5 (some (I k_1))), (upd (fun _ => none) 0 (lstB zout3 1 (out3.map eI))), 1⟩ → Q (.exit 2) s)
    (hr : ∀ s, Ends a32.results 0 (clerestoryref2_OrderOf_post o) .ret s → Q .ret s) :
    Sv Try.prog Γ 0 (.loop a32_c0) Q ⟨(upd (upd (upd (upd (fun _ => none) 0 (some (.c (.ro false 6 (l_.map e_TSGiven))))) 3 (some (lstV zout2 0 1 out2.length))) 4 (some (I i_))) 5 (some (I k_))), (upd (fun _ => none) 0 (lstB zout2 1 (out2.map eI))), 1⟩ := by
  refine Sv.loop (I := fun k s => ∃ (out2 : (List Int)), ∃ (k_ : Int), ∃ (zout2 : Bool), (zout2 = true → out2 = []) ∧ clerestoryref2_OrderOf_l3 l_ i_ K2_ k out2 k_ = some o ∧ s = ⟨(upd (upd (upd (upd (fun _ => none) 0 (some (.c (.ro false 6 (l_.map e_TSGiven))))) 3 (some (lstV zout2 0 1 out2.length))) 4 (some (I i_))) 5 (some (I k_))), (upd (fun _ => none) 0 (lstB zout2 1 (out2.map eI))), 1⟩) (fun k s hI => ?_) ⟨out2, k_, zout2, hzout2, h, rfl⟩
  clear h
  clear hzout2 zout2 k_ out2
  obtain ⟨out2, k_, zout2, hzout2, h, rfl⟩ := hI
  cases k with
  | zero => cases h
  | succ k =>
  rw [clerestoryref2_OrderOf_l3] at h
  have hself : ∀ (out2 : (List Int)) (k_ : Int) (zout2 : Bool) (_ : zout2 = true → out2 = []), (clerestoryref2_OrderOf_l3 l_ i_ K2_ k) out2 k_ = some o → ∀ s, Weak 0 s ⟨(upd (upd (upd (upd (fun _ => none) 0 (some (.c (.ro false 6 (l_.map e_TSGiven))))) 3 (some (lstV zout2 0 1 out2.length))) 4 (some (I i_))) 5 (some (I k_))), (upd (fun _ => none) 0 (lstB zout2 1 (out2.map eI))), 1⟩ → (AThen (fun s' => ∃ s'' k', Weak 0 s' s'' ∧ k' < k + 1 ∧ (fun k s => ∃ (out2 : (List Int)), ∃ (k_ : Int), ∃ (zout2 : Bool), (zout2 = true → out2 = []) ∧ clerestoryref2_OrderOf_l3 l_ i_ K2_ k out2 k_ = some o ∧ s = ⟨(upd (upd (upd (upd (fun _ => none) 0 (some (.c (.ro false 6 (l_.map e_TSGiven))))) 3 (some (lstV zout2 0 1 out2.length))) 4 (some (I i_))) 5 (some (I k_))), (upd (fun _ => none) 0 (lstB zout2 1 (out2.map eI))), 1⟩) k' s'') Q) .normal s := fun out2 k_ zout2 hzout2 h s hw => ⟨_, k, hw, Nat.lt_succ_self k, out2, k_, zout2, hzout2, h, rfl⟩
  refine Sv.seq ?_
  refine Sv.seq ?_
  refine Sv.drawn ?_
  refine un (a1 rfl ?_)
  refine un (a1 (v := (B (decide (0 < k_)))) rfl ?_)
  refine un (a1 rfl ?_)
  refine split2 (fun hc3 => ?_) (fun hc3 => ?_)
  · replace h := ifT hc3 h
    refine gt rfl (a1 rfl ?_)
    refine gt rfl (a1 rfl ?_)
    obtain ⟨x_, hx1, h⟩ := bnd h
    refine gt rfl (a1 (v := (.c (.rop [.str x_.Name, .str x_.Value, cI x_.Origin, cB x_.Important, cI x_.Weight, cI x_.Place]))) (s_iaddr (e := e_TSGiven) (xs := l_) rfl rfl hx1) ?_)
    refine gt rfl (a1 (v := (.agg [.str x_.Name, .str x_.Value, cI x_.Origin, cB x_.Important, cI x_.Weight, cI x_.Place])) rfl ?_)
    refine gt rfl (a1 rfl ?_)
    refine gt rfl (a1 rfl ?_)
    refine gt rfl (a1 rfl ?_)
    refine gt rfl (a1 (v := (I (wi (k_ - 1)))) rfl ?_)
    obtain ⟨x_1, hx2, h⟩ := bnd h
    refine gt rfl (a1 (v := (.c (.ref 0 1 (wi (k_ - 1)).toNat 0))) (s_iaddrL rfl rfl hzout2 hx2) ?_)
    refine gt rfl (a1 (v := (I x_1)) (s_loadL (e := eI) rfl rfl hzout2 hx2 rfl rfl) ?_)
    obtain ⟨x_2, hx3, h⟩ := bnd h
    refine gt rfl (a1 (v := (.c (.rop [.str x_2.Name, .str x_2.Value, cI x_2.Origin, cB x_2.Important, cI x_2.Weight, cI x_2.Place]))) (s_iaddr (e := e_TSGiven) (xs := l_) rfl rfl hx3) ?_)
    refine gt rfl (a1 (v := (.agg [.str x_2.Name, .str x_2.Value, cI x_2.Origin, cB x_2.Important, cI x_2.Weight, cI x_2.Place])) rfl ?_)
    refine gt rfl (ac_pure (clerestoryref2_Later_ok (Γ := Γ) x_ x_2) rfl rfl rfl ?_)
    refine un (a1 (v := (B (clerestoryref2_Later x_ x_2))) rfl ?_)
    refine dnil ?_
    exact Sv.weak (weak_canon [0] rfl (by decide) (by decide) (fun b h => absurd h (Nat.not_lt_zero _)) (.cons rfl (avAs_free rfl) (.cons rfl (avAs_free rfl) (.cons rfl (avAs_free rfl) (.cons rfl (.c (lstC_ren rfl (by decide))) (.cons rfl (avAs_free rfl) .nil))))) (.row (by decide) rfl (fr_map fun _ => rfl) .nil)) (clerestoryref2_OrderOf_j6_ok hzout2 h hself hK2 hr)
  · replace h := ifF hc3 h
    refine gs rfl rfl ?_
    refine gs rfl rfl ?_
    refine gs rfl rfl ?_
    refine gs rfl rfl ?_
    refine gs rfl rfl ?_
    refine gs rfl rfl ?_
    refine gs rfl rfl ?_
    refine gs rfl rfl ?_
    refine gs rfl rfl ?_
    refine gs rfl rfl ?_
    refine gs rfl rfl ?_
    refine gs rfl rfl ?_
    refine gs rfl rfl ?_
    refine un (a1 (v := (B false)) rfl ?_)
    refine dnil ?_
    exact Sv.weak (weak_canon [0] rfl (by decide) (by decide) (fun b h => absurd h (Nat.not_lt_zero _)) (.cons rfl (avAs_free rfl) (.cons rfl (avAs_free rfl) (.cons rfl (avAs_free rfl) (.cons rfl (.c (lstC_ren rfl (by decide))) (.cons rfl (avAs_free rfl) .nil))))) (.row (by decide) rfl (fr_map fun _ => rfl) .nil)) (clerestoryref2_OrderOf_j6_ok hzout2 h hself hK2 hr)
noncomputable def clerestoryref2_OrderOf_l2 (l_ : (List TSGiven)) (K0_ : (List Int) → Option (List Int)) : Nat → (List Int) → Int → Option (List Int)
  | 0, _, _ => none
  | k + 1, out, i_ =>
    if decide (i_ < (l_.length : Int)) then
      lim fun kk => clerestoryref2_OrderOf_l3 l_ i_ (fun (out3 : (List Int)) (k_1 : Int) => 
          (sub? out3 0 k_1).bind fun r_ =>
          (app? 8 ([] : List Int) r_).bind fun r_1 =>
          (app? 8 r_1 [i_]).bind fun r_2 =>
          (sub? out3 k_1 (out3.length : Int)).bind fun r_3 =>
          (app? 8 r_2 r_3).bind fun r_4 =>
          (clerestoryref2_OrderOf_l2 l_ K0_ k) r_4 (wi (i_ + 1))) kk out (out.length : Int)
    else
      K0_ out
theorem clerestoryref2_OrderOf_l2_ok {Γ : Glob} {Q : AExit → St → Prop} {l_ : (List TSGiven)} {K0_ : (List Int) → Option (List Int)} {k : Nat} {out : (List Int)} {i_ : Int} {zout : Bool} (hzout : zout = true → out = []) {o : (List Int)} (h : clerestoryref2_OrderOf_l2 l_ K0_ k out i_ = some o)
    (hK0 : ∀ (out1 : (List Int)) (zout1 : Bool) (_ : zout1 = true → out1 = []), K0_ out1 = some o → ∀ s, Weak 0 s ⟨(upd (fun _ => none) 3 (some (lstV zout1 0 1 out1.length))), (upd (fun _ => none) 0 (lstB zout1 1 (out1.map eI))), 1⟩ → Q (.exit 0) s)
    (hr : ∀ s, Ends a32.results 0 (clerestoryref2_OrderOf_post o) .ret s → Q .ret s) :
    Sv Try.prog Γ 0 (.loop a32_c3) Q ⟨(upd (upd (upd (fun _ => none) 0 (some (.c (.ro false 6 (l_.map e_TSGiven))))) 3 (some (lstV zout 0 1 out.length))) 4 (some (I i_))), (upd (fun _ => none) 0 (lstB zout 1 (out.map eI))), 1⟩ := by
  refine Sv.loop (I := fun k s => ∃ (out : (List Int)), ∃ (i_ : Int), ∃ (zout : Bool), (zout = true → out = []) ∧ clerestoryref2_OrderOf_l2 l_ K0_ k out i_ = some o ∧ s = ⟨(upd (upd (upd (fun _ => none) 0 (some (.c (.ro false 6 (l_.map e_TSGiven))))) 3 (some (lstV zout 0 1 out.length))) 4 (some (I i_))), (upd (fun _ => none) 0 (lstB zout 1 (out.map eI))), 1⟩) (fun k s hI => ?_) ⟨out, i_, zout, hzout, h, rfl⟩
  clear h
  clear hzout zout i_ out
  obtain ⟨out, i_, zout, hzout, h, rfl⟩ := hI
  cases k with
  | zero => cases h
  | succ k =>
  rw [clerestoryref2_OrderOf_l2] at h
  have hself : ∀ (out : (List Int)) (i_ : Int) (zout : Bool) (_ : zout = true → out = []), (clerestoryref2_OrderOf_l2 l_ K0_ k) out i_ = some o → ∀ s, Weak 0 s ⟨(upd (upd (upd (fun _ => none) 0 (some (.c (.ro false 6 (l_.map e_TSGiven))))) 3 (some (lstV zout 0 1 out.length))) 4 (some (I i_))), (upd (fun _ => none) 0 (lstB zout 1 (out.map eI))), 1⟩ → (AThen (fun s' => ∃ s'' k', Weak 0 s' s'' ∧ k' < k + 1 ∧ (fun k s => ∃ (out : (List Int)), ∃ (i_ : Int), ∃ (zout : Bool), (zout = true → out = []) ∧ clerestoryref2_OrderOf_l2 l_ K0_ k out i_ = some o ∧ s = ⟨(upd (upd (upd (fun _ => none) 0 (some (.c (.ro false 6 (l_.map e_TSGiven))))) 3 (some (lstV zout 0 1 out.length))) 4 (some (I i_))), (upd (fun _ => none) 0 (lstB zout 1 (out.map eI))), 1⟩) k' s'') Q) .normal s := fun out i_ zout hzout h s hw => ⟨_, k, hw, Nat.lt_succ_self k, out, i_, zout, hzout, h, rfl⟩
  refine Sv.seq ?_
  refine Sv.seq ?_
  refine Sv.region ?_
  refine un (a1 rfl ?_)
  refine un (a1 rfl ?_)
  refine un (a1 (v := (I (l_.length : Int))) (s_len (e := e_TSGiven) (xs := l_) rfl) ?_)
  refine un (a1 (v := (B (decide (i_ < (l_.length : Int))))) rfl ?_)
  refine dnil ?_
  refine Sv.cond (b := decide (i_ < (l_.length : Int))) rfl (fun hc1 => ?_) (fun hc1 => ?_)
  · replace h := ifT hc1 h
    refine Sv.skip ?_
    refine Sv.seq ?_
    refine Sv.block ?_
    refine Sv.seq ?_
    refine Sv.region ?_
    refine un (a1 rfl ?_)
    refine un (a1 (v := (I (out.length : Int))) (s_lenL rfl (len_nil_of hzout)) ?_)
    refine un (a1 rfl ?_)
    refine dnil ?_
    refine Sv.seq ?_
    refine Sv.block ?_
    obtain ⟨kk, h⟩ := lim_some h
    refine Sv.weak (weak_canon [0] rfl (by decide) (by decide) (fun b h => absurd h (Nat.not_lt_zero _)) (.cons rfl (avAs_free rfl) (.cons rfl (avAs_free rfl) (.cons rfl (.c (lstC_ren rfl (by decide))) (.cons rfl (avAs_free rfl) .nil)))) (.row (by decide) rfl (fr_map fun _ => rfl) .nil)) (clerestoryref2_OrderOf_l3_ok hzout h ?_ hr)
    · intro out3 k_1 zout3 hzout3 h _ hw1
      refine Sv.weak hw1 ?_
      refine Sv.seq ?_
      refine Sv.weak (show Weak 0 _ ⟨(upd (upd (upd (upd (fun _ => none) 0 (some (.c (.ro false 6 (l_.map e_TSGiven))))) 3 (some (.c (.ro false 1 (out3.map eI))))) 4 (some (I i_))) 5 (some (I k_1))), (fun _ => none), 1⟩ from (weak_canon [1000] rfl (by decide) (by decide) (fun b h => absurd h (Nat.not_lt_zero _)) (.cons rfl (avAs_free rfl) (.cons rfl (avAs_free rfl) (.cons rfl (.c (lstC_ro (es := List.map eI out3) rfl (List.length_map eI).symm (map_nil_of hzout3) (fun b x hx => not_in (bs := [1000]) rfl b (((.nil) : HLt _ _) b x hx)) (fr_map fun _ => rfl))) (.cons rfl (avAs_free rfl) .nil)))) .nil)) ?_
      refine Sv.region ?_
      refine un (a2v (v := (lstV false 1 1 ([] : List Int).length)) (h' := upd _ 1 (lstB false 1 (([] : List Int).map eI))) (n' := 2) rfl rfl (fun h => by cases h) ?_)
      refine un (a1 rfl ?_)
      refine un (a1 rfl ?_)
      obtain ⟨r_, hx4, h⟩ := bnd h
      refine un (a1 (v := (.c (.ro false 1 (r_.map eI)))) (s_slSl (e := eI) rfl rfl rfl hx4) ?_)
      obtain ⟨r_1, hr1, h⟩ := bnd h
      have hz1 : (false && r_.isEmpty) = true → r_1 = [] := app_nil (z := false) (ys := r_) (fun h => by cases h) hr1
      replace hz1 : false = true → r_1 = [] := hz1
      refine un (a2v rfl (s_app (xs := ([] : List Int)) (ys := r_) (e := eI) (z := false) (b := 1) rfl rfl (fun h => by cases h) rfl rfl (slc_ro) hr1) (fun h => by cases h) ?_)
      refine un (a1 rfl ?_)
      refine dnil ?_
      refine Sv.seq ?_
      refine Sv.region ?_
      refine un (a1 rfl ?_)
      refine un (a1 rfl ?_)
      refine un (a2v (v := (lstV false 3 1 [i_].length)) (h' := upd _ 3 (lstB false 1 ([i_].map eI))) (n' := 4) rfl rfl (fun h => by cases h) ?_)
      obtain ⟨r_2, hr2, h⟩ := bnd h
      have hz2 : (false && [i_].isEmpty) = true → r_2 = [] := app_nil (z := false) (ys := [i_]) hz1 hr2
      replace hz2 : false = true → r_2 = [] := hz2
      refine un (a2v rfl (s_app (xs := r_1) (ys := [i_]) (e := eI) (z := false) (b := 2) rfl rfl hz1 rfl rfl (slc_lst rfl (List.length_map _).symm (map_nil_of (fun h => by cases h))) hr2) (fun h => by cases h) ?_)
      refine un (a1 rfl ?_)
      refine dnil ?_
      refine Sv.region ?_
      refine un (a1 rfl ?_)
      refine un (a1 rfl ?_)
      refine un (a1 rfl ?_)
      obtain ⟨r_3, hx5, h⟩ := bnd h
      refine un (a1 (v := (.c (.ro false 1 (r_3.map eI)))) (s_slSl (e := eI) rfl rfl rfl hx5) ?_)
      obtain ⟨r_4, hr3, h⟩ := bnd h
      have hz3 : (false && r_3.isEmpty) = true → r_4 = [] := app_nil (z := false) (ys := r_3) hz2 hr3
      replace hz3 : false = true → r_4 = [] := hz3
      refine un (a2v rfl (s_app (xs := r_2) (ys := r_3) (e := eI) (z := false) (b := 4) rfl rfl hz2 rfl rfl (slc_ro) hr3) (fun h => by cases h) ?_)
      refine un (a1 rfl ?_)
      refine dnil ?_
      refine Sv.region ?_
      refine un (a1 rfl ?_)
      refine un (a1 (v := (I (wi (i_ + 1)))) rfl ?_)
      refine un (a1 rfl ?_)
      refine dnil ?_
      exact hself r_4 (wi (i_ + 1)) false hz3 h _ (weak_canon [5] rfl (by decide) (by decide) (fun b h => absurd h (Nat.not_lt_zero _)) (.cons rfl (avAs_free rfl) (.cons rfl (.c (lstC_ren rfl (by decide))) (.cons rfl (avAs_free rfl) .nil))) (.row (by decide) rfl (fr_map fun _ => rfl) .nil))
  · replace h := ifF hc1 h
    refine Sv.exit ?_
    exact hK0 out zout hzout h _ (weak_canon [0] rfl (by decide) (by decide) (fun b h => absurd h (Nat.not_lt_zero _)) (.cons rfl (.c (lstC_ren rfl (by decide))) .nil) (.row (by decide) rfl (fr_map fun _ => rfl) .nil))
/-- clerestory/clerestoryref2.OrderOf -/
noncomputable def clerestoryref2_OrderOf (l_ : (List TSGiven)) : Option (List Int) :=
  lim fun kk1 => clerestoryref2_OrderOf_l2 l_ (fun (out1 : (List Int)) => 
      some out1) kk1 ([] : List Int) 0
theorem clerestoryref2_OrderOf_ok {Γ : Glob} {l_ : (List TSGiven)} {r : (List Int)} (h : clerestoryref2_OrderOf l_ = some r) : ACalls Try.prog Γ 32 [(.c (.ro false 6 (l_.map e_TSGiven)))] (fun _ => none) 0 (clerestoryref2_OrderOf_post r) := by
  refine acalls_of_sv hmix c32 (R := clerestoryref2_OrderOf_post r) ?_
  unfold clerestoryref2_OrderOf at h
  refine Sv.seq ?_
  refine Sv.region ?_
  refine un (a1 rfl ?_)
  refine dnil ?_
  refine Sv.seq ?_
  refine Sv.region ?_
  refine un (a1 rfl ?_)
  refine dnil ?_
  refine Sv.seq ?_
  refine Sv.seq ?_
  refine Sv.region ?_
  refine un (a1 rfl ?_)
  refine dnil ?_
  refine Sv.block ?_
  obtain ⟨kk1, h⟩ := lim_some h
  refine Sv.weak (weak_canon [1000] rfl (by decide) (by decide) (fun b h => absurd h (Nat.not_lt_zero _)) (.cons rfl (avAs_free rfl) (.cons rfl (.c (.same rfl)) (.cons rfl (avAs_free rfl) .nil))) (.non (by decide) .nil)) (clerestoryref2_OrderOf_l2_ok (fun _ => rfl) h ?_ (fun s hs => hs))
  · intro out1 zout1 hzout1 h _ hw2
    refine Sv.weak hw2 ?_
    refine Sv.seq ?_
    refine Sv.region ?_
    refine un (a1 rfl ?_)
    refine un (a1 rfl ?_)
    refine dnil ?_
    refine Sv.ret ?_
    replace h := Option.some.inj h
    subst h
    exact ⟨_, .refl _, _, rfl, ⟨upd (fun _ => none) 0 (some (lstV zout1 0 1 out1.length)), (upd (fun _ => none) 0 (lstB zout1 1 (out1.map eI))), 1⟩, (lstV zout1 0 1 out1.length), weak_canon2 [0] [0] (by decide) (by decide) (fun b h => absurd h (Nat.not_lt_zero _)) (.cons (by decide) .nil) (.cons rfl (.c (lstC_ren rfl (by decide))) .nil) (.row (by decide) rfl (fr_map fun _ => rfl) .nil), rfl, zout1, hzout1, rfl, rfl, rfl⟩
def a10_c0 : ACode := (.cond (.tmp 75) (.seq (.region [⟨(some 2), (.mov (.const (.c (.val (.bool false))))), none⟩])
 .ret) .skip)
def a10_c1 : ACode := (.region [⟨(some 26), (.mov (.tmp 6)), none⟩, ⟨(some 27), (.bin .add (.tmp 26) (.const (.c (.val (.int .i64 1))))), none⟩, ⟨(some 6), (.mov (.tmp 27)), none⟩])
def a10_c2 : ACode := (.seq (.seq (.region [⟨(some 22), (.mov (.tmp 6)), none⟩, ⟨(some 23), (.mov (.tmp 4)), none⟩, ⟨(some 24), (.len (.tmp 23)), none⟩, ⟨(some 25), (.bin .lss (.tmp 22) (.tmp 24)), none⟩])
 (.cond (.tmp 25) .skip (.exit 0)))
 (.seq (.block 1 (.seq (.drawn (.fin [(⟨(some 28), (.mov (.tmp 4)), none⟩, (0, 0)), (⟨(some 29), (.mov (.tmp 6)), none⟩, (0, 1)), (⟨(some 30), (.iaddr 1 (.tmp 28) (.tmp 29)), none⟩, (0, 2)), (⟨(some 31), (.load false 1 (.tmp 30)), none⟩, (0, 3)), (⟨(some 32), (.mov (.tmp 5)), none⟩, (0, 4)), (⟨(some 33), (.mov (.tmp 6)), none⟩, (0, 5)), (⟨(some 34), (.iaddr 1 (.tmp 32) (.tmp 33)), none⟩, (0, 6)), (⟨(some 35), (.load false 1 (.tmp 34)), none⟩, (0, 7)), (⟨(some 36), (.bin .neq (.tmp 31) (.tmp 35)), none⟩, (0, 8)), (⟨(some 37), (.mov (.tmp 36)), none⟩, (0, 9)), (⟨(some 38), (.mov (.tmp 6)), (some (37, false))⟩, (0, 10)), (⟨(some 39), (.bin .gtr (.tmp 38) (.const (.c (.val (.int .i64 0))))), (some (37, false))⟩, (0, 11)), (⟨(some 40), (.mov (.tmp 39)), (some (37, false))⟩, (0, 12)), (⟨(some 41), (.mov (.tmp 0)), (some (40, true))⟩, (0, 13)), (⟨(some 42), (.mov (.tmp 4)), (some (40, true))⟩, (0, 14)), (⟨(some 43), (.mov (.tmp 6)), (some (40, true))⟩, (0, 15)), (⟨(some 44), (.iaddr 1 (.tmp 42) (.tmp 43)), (some (40, true))⟩, (0, 16)), (⟨(some 45), (.load false 1 (.tmp 44)), (some (40, true))⟩, (0, 17)), (⟨(some 46), (.iaddr 6 (.tmp 41) (.tmp 45)), (some (40, true))⟩, (0, 18)), (⟨(some 47), (.load true 6 (.tmp 46)), (some (40, true))⟩, (0, 19)), (⟨(some 48), (.mov (.tmp 0)), (some (40, true))⟩, (0, 20)), (⟨(some 49), (.mov (.tmp 4)), (some (40, true))⟩, (0, 21)), (⟨(some 50), (.mov (.tmp 6)), (some (40, true))⟩, (0, 22)), (⟨(some 51), (.bin .sub (.tmp 50) (.const (.c (.val (.int .i64 1))))), (some (40, true))⟩, (0, 23)), (⟨(some 52), (.iaddr 1 (.tmp 49) (.tmp 51)), (some (40, true))⟩, (0, 24)), (⟨(some 53), (.load false 1 (.tmp 52)), (some (40, true))⟩, (0, 25)), (⟨(some 54), (.iaddr 6 (.tmp 48) (.tmp 53)), (some (40, true))⟩, (0, 26)), (⟨(some 55), (.load true 6 (.tmp 54)), (some (40, true))⟩, (0, 27)), (⟨(some 57), (.mov (.tmp 0)), (some (40, true))⟩, (0, 29)), (⟨(some 58), (.mov (.tmp 4)), (some (40, true))⟩, (0, 30)), (⟨(some 59), (.mov (.tmp 6)), (some (40, true))⟩, (0, 31)), (⟨(some 60), (.iaddr 1 (.tmp 58) (.tmp 59)), (some (40, true))⟩, (0, 32)), (⟨(some 61), (.load false 1 (.tmp 60)), (some (40, true))⟩, (0, 33)), (⟨(some 62), (.iaddr 6 (.tmp 57) (.tmp 61)), (some (40, true))⟩, (0, 34)), (⟨(some 63), (.load true 6 (.tmp 62)), (some (40, true))⟩, (0, 35)), (⟨(some 64), (.mov (.tmp 0)), (some (40, true))⟩, (0, 36)), (⟨(some 65), (.mov (.tmp 4)), (some (40, true))⟩, (0, 37)), (⟨(some 66), (.mov (.tmp 6)), (some (40, true))⟩, (0, 38)), (⟨(some 67), (.bin .sub (.tmp 66) (.const (.c (.val (.int .i64 1))))), (some (40, true))⟩, (0, 39)), (⟨(some 68), (.iaddr 1 (.tmp 65) (.tmp 67)), (some (40, true))⟩, (0, 40)), (⟨(some 69), (.load false 1 (.tmp 68)), (some (40, true))⟩, (0, 41)), (⟨(some 70), (.iaddr 6 (.tmp 64) (.tmp 69)), (some (40, true))⟩, (0, 42)), (⟨(some 71), (.load true 6 (.tmp 70)), (some (40, true))⟩, (0, 43)), (⟨(some 56), (.call 33 [(.tmp 47), (.tmp 55)]), (some (40, true))⟩, (1, 28)), (⟨(some 72), (.call 34 [(.tmp 63), (.tmp 71)]), (some (40, true))⟩, (2, 44)), (⟨(some 73), (.eqs true false [.b] (.tmp 56) (.tmp 72)), (some (40, true))⟩, (0, 45)), (⟨(some 74), (.pick (.tmp 40) (.tmp 73) (.const (.c (.val (.bool false))))), (some (37, false))⟩, (0, 46)), (⟨(some 75), (.pick (.tmp 37) (.const (.c (.val (.bool true)))) (.tmp 74)), none⟩, (0, 47))]))
 a10_c0))
 a10_c1))
def a10 : AFunc := ⟨1, [(.tmp 2)], (.seq (.region [⟨(some 2), (.mov (.const (.c (.val (.bool false))))), none⟩])
 (.seq (.region [⟨(some 7), (.call 18 []), none⟩, ⟨(some 3), (.mov (.tmp 7)), none⟩])
 (.seq (.region [⟨(some 8), (.mov (.tmp 0)), none⟩, ⟨(some 9), (.mov (.tmp 0)), none⟩, ⟨(some 10), (.len (.tmp 9)), none⟩, ⟨(some 11), (.mm false [(.tmp 10), (.const (.c (.val (.int .i64 60))))]), none⟩, ⟨(some 12), (.slSl 6 (.tmp 8) none (some (.tmp 11)) none), none⟩, ⟨(some 0), (.mov (.tmp 12)), none⟩])
 (.seq (.region [⟨(some 13), (.mov (.tmp 0)), none⟩, ⟨(some 14), (.call 31 [(.tmp 13)]), none⟩, ⟨(some 4), (.mov (.tmp 14)), none⟩])
 (.seq (.region [⟨(some 15), (.mov (.tmp 0)), none⟩, ⟨(some 16), (.call 32 [(.tmp 15)]), none⟩, ⟨(some 5), (.mov (.tmp 16)), none⟩])
 (.seq (.seq (.region [⟨(some 17), (.mov (.tmp 4)), none⟩, ⟨(some 18), (.len (.tmp 17)), none⟩, ⟨(some 19), (.mov (.tmp 5)), none⟩, ⟨(some 20), (.len (.tmp 19)), none⟩, ⟨(some 21), (.bin .neq (.tmp 18) (.tmp 20)), none⟩])
 (.cond (.tmp 21) (.seq (.region [⟨(some 2), (.mov (.const (.c (.val (.bool false))))), none⟩])
 .ret) .skip))
 (.seq (.seq (.region [⟨(some 6), (.mov (.const (.c (.val (.int .i64 0))))), none⟩])
 (.block 0 (.loop a10_c2)))
 (.seq (.region [⟨(some 76), (.mov (.tmp 3)), none⟩, ⟨(some 2), (.mov (.tmp 76)), none⟩])
 .ret))))))))⟩
set_option maxRecDepth 100000 in
theorem c10 : compFunc Try.prog 10 = some a10 := by kernel_rfl
def clerestorylaw2_CascadeOrders_post (r : Bool) : AV → Heap → Nat → Prop := fun v h' n' => v = (B r) ∧ (h' = (fun _ => none)) ∧ n' = 0
abbrev clerestorylaw2_CascadeOrders_q0 (Γ : Glob) (Q : AExit → St → Prop) : AExit → St → Prop := AThen (Sv Try.prog Γ 0 a10_c1 Q) Q
abbrev clerestorylaw2_CascadeOrders_q1 (Γ : Glob) (Q : AExit → St → Prop) : AExit → St → Prop := ABlock 1 (clerestorylaw2_CascadeOrders_q0 Γ Q)
noncomputable def clerestorylaw2_CascadeOrders_j3 (i_ : Int) (r_1 : (List TSGiven)) (r_ : Bool) (self : (List Int) → (List Int) → Int → Option Bool) (K0_ : Unit → Option Bool) (a_1 : (List Int)) (b_1 : (List Int)) (v75 : Bool) : Option Bool :=
  if v75 then
    some false
  else
    self a_1 b_1 (wi (i_ + 1))
theorem clerestorylaw2_CascadeOrders_j3_ok {Γ : Glob} {Q : AExit → St → Prop} {i_ : Int} {r_1 : (List TSGiven)} {r_ : Bool} {self : (List Int) → (List Int) → Int → Option Bool} {K0_ : Unit → Option Bool} {a_1 : (List Int)} {b_1 : (List Int)} {v75 : Bool} {za_1 : Bool} (hza_1 : za_1 = true → a_1 = []) {zb_1 : Bool} (hzb_1 : zb_1 = true → b_1 = []) {o : Bool} (h : clerestorylaw2_CascadeOrders_j3 i_ r_1 r_ self K0_ a_1 b_1 v75 = some o)
    (hself : ∀ (a_ : (List Int)) (b_ : (List Int)) (i_ : Int) (za : Bool) (_ : za = true → a_ = []) (zb : Bool) (_ : zb = true → b_ = []), self a_ b_ i_ = some o → ∀ s, Weak 0 s ⟨(upd (upd (upd (upd (upd (fun _ => none) 0 (some (.c (.ro false 6 (r_1.map e_TSGiven))))) 3 (some (B r_))) 4 (some (lstV za 0 1 a_.length))) 5 (some (lstV zb 1 1 b_.length))) 6 (some (I i_))), (upd (upd (fun _ => none) 0 (lstB za 1 (a_.map eI))) 1 (lstB zb 1 (b_.map eI))), 2⟩ → (Q) .normal s)
    (hK0 : ∀ (_ : Unit), K0_ () = some o → ∀ s, Weak 0 s ⟨(upd (fun _ => none) 3 (some (B r_))), (fun _ => none), 0⟩ → Q (.exit 0) s)
    (hr : ∀ s, Ends a10.results 0 (clerestorylaw2_CascadeOrders_post o) .ret s → Q .ret s) :
    Sv Try.prog Γ 0 a10_c0 (clerestorylaw2_CascadeOrders_q1 Γ Q) ⟨(upd (upd (upd (upd (upd (upd (fun _ => none) 0 (some (.c (.ro false 6 (r_1.map e_TSGiven))))) 3 (some (B r_))) 4 (some (lstV za_1 0 1 a_1.length))) 5 (some (lstV zb_1 1 1 b_1.length))) 6 (some (I i_))) 75 (some (B v75))), (upd (upd (fun _ => none) 0 (lstB za_1 1 (a_1.map eI))) 1 (lstB zb_1 1 (b_1.map eI))), 2⟩ := by
  unfold clerestorylaw2_CascadeOrders_j3 at h
  refine Sv.cond (b := v75) rfl (fun hc3 => ?_) (fun hc3 => ?_)
  · replace h := ifT hc3 h
    refine Sv.seq ?_
    refine Sv.region ?_
    refine un (a1 rfl ?_)
    refine dnil ?_
    refine Sv.ret ?_
    replace h := Option.some.inj h
    subst h
    exact hr _ ⟨_, .refl _, _, rfl, ⟨upd (fun _ => none) 0 (some (B false)), (fun _ => none), 0⟩, (B false), weak_canon [] rfl List.nodup_nil (Nat.le_refl _) (fun b h => absurd h (Nat.not_lt_zero _)) (.cons rfl (avAs_free rfl) .nil) .nil, rfl, rfl, rfl, rfl⟩
  · replace h := ifF hc3 h
    refine Sv.skip ?_
    refine Sv.region ?_
    refine un (a1 rfl ?_)
    refine un (a1 (v := (I (wi (i_ + 1)))) rfl ?_)
    refine un (a1 rfl ?_)
    refine dnil ?_
    exact hself a_1 b_1 (wi (i_ + 1)) za_1 hza_1 zb_1 hzb_1 h _ (weak_canon [0, 1] rfl (by decide) (by decide) (fun b h => absurd h (Nat.not_lt_zero _)) (.cons rfl (avAs_free rfl) (.cons rfl (.c (lstC_ren rfl (by decide))) (.cons rfl (.c (lstC_ren rfl (by decide))) (.cons rfl (avAs_free rfl) (.cons rfl (avAs_free rfl) .nil))))) (.row (by decide) rfl (fr_map fun _ => rfl) (.row (by decide) rfl (fr_map fun _ => rfl) .nil)))
noncomputable def clerestorylaw2_CascadeOrders_l0 (r_1 : (List TSGiven)) (r_ : Bool) (K0_ : Unit → Option Bool) : Nat → (List Int) → (List Int) → Int → Option Bool
  | 0, _, _, _ => none
  | k + 1, a_, b_, i_ =>
    if decide (i_ < (a_.length : Int)) then
      (at? a_ i_).bind fun x_ =>
      (at? b_ i_).bind fun x_1 =>
      if (!decide (x_ = x_1)) then
        clerestorylaw2_CascadeOrders_j3 i_ r_1 r_ (clerestorylaw2_CascadeOrders_l0 r_1 r_ K0_ k) K0_ a_ b_ true
      else
        if decide (0 < i_) then
          (at? a_ i_).bind fun x_2 =>
          (at? r_1 x_2).bind fun x_3 =>
          (at? a_ (wi (i_ - 1))).bind fun x_4 =>
          (at? r_1 x_4).bind fun x_5 =>
          (at? a_ i_).bind fun x_6 =>
          (at? r_1 x_6).bind fun x_7 =>
          (at? a_ (wi (i_ - 1))).bind fun x_8 =>
          (at? r_1 x_8).bind fun x_9 =>
          (cascade_Less x_3 x_5).bind fun r_4 =>
          clerestorylaw2_CascadeOrders_j3 i_ r_1 r_ (clerestorylaw2_CascadeOrders_l0 r_1 r_ K0_ k) K0_ a_ b_ (!((r_4 == (clerestoryref2_Later x_7 x_9)) && true))
        else
          clerestorylaw2_CascadeOrders_j3 i_ r_1 r_ (clerestorylaw2_CascadeOrders_l0 r_1 r_ K0_ k) K0_ a_ b_ false
    else
      K0_ ()
theorem clerestorylaw2_CascadeOrders_l0_ok {Γ : Glob} {Q : AExit → St → Prop} {r_1 : (List TSGiven)} {r_ : Bool} {K0_ : Unit → Option Bool} {k : Nat} {a_ : (List Int)} {b_ : (List Int)} {i_ : Int} {za : Bool} (hza : za = true → a_ = []) {zb : Bool} (hzb : zb = true → b_ = []) {o : Bool} (h : clerestorylaw2_CascadeOrders_l0 r_1 r_ K0_ k a_ b_ i_ = some o)
    (hK0 : ∀ (_ : Unit), K0_ () = some o → ∀ s, Weak 0 s ⟨(upd (fun _ => none) 3 (some (B r_))), (fun _ => none), 0⟩ → Q (.exit 0) s)
    (hr : ∀ s, Ends a10.results 0 (clerestorylaw2_CascadeOrders_post o) .ret s → Q .ret s) :
    Sv Try.prog Γ 0 (.loop a10_c2) Q ⟨(upd (upd (upd (upd (upd (fun _ => none) 0 (some (.c (.ro false 6 (r_1.map e_TSGiven))))) 3 (some (B r_))) 4 (some (lstV za 0 1 a_.length))) 5 (some (lstV zb 1 1 b_.length))) 6 (some (I i_))), (upd (upd (fun _ => none) 0 (lstB za 1 (a_.map eI))) 1 (lstB zb 1 (b_.map eI))), 2⟩ := by
  refine Sv.loop (I := fun k s => ∃ (a_ : (List Int)), ∃ (b_ : (List Int)), ∃ (i_ : Int), ∃ (za : Bool), (za = true → a_ = []) ∧ ∃ (zb : Bool), (zb = true → b_ = []) ∧ clerestorylaw2_CascadeOrders_l0 r_1 r_ K0_ k a_ b_ i_ = some o ∧ s = ⟨(upd (upd (upd (upd (upd (fun _ => none) 0 (some (.c (.ro false 6 (r_1.map e_TSGiven))))) 3 (some (B r_))) 4 (some (lstV za 0 1 a_.length))) 5 (some (lstV zb 1 1 b_.length))) 6 (some (I i_))), (upd (upd (fun _ => none) 0 (lstB za 1 (a_.map eI))) 1 (lstB zb 1 (b_.map eI))), 2⟩) (fun k s hI => ?_) ⟨a_, b_, i_, za, hza, zb, hzb, h, rfl⟩
  clear h
  clear hzb hza zb za i_ b_ a_
  obtain ⟨a_, b_, i_, za, hza, zb, hzb, h, rfl⟩ := hI
  cases k with
  | zero => cases h
  | succ k =>
  rw [clerestorylaw2_CascadeOrders_l0] at h
  have hself : ∀ (a_ : (List Int)) (b_ : (List Int)) (i_ : Int) (za : Bool) (_ : za = true → a_ = []) (zb : Bool) (_ : zb = true → b_ = []), (clerestorylaw2_CascadeOrders_l0 r_1 r_ K0_ k) a_ b_ i_ = some o → ∀ s, Weak 0 s ⟨(upd (upd (upd (upd (upd (fun _ => none) 0 (some (.c (.ro false 6 (r_1.map e_TSGiven))))) 3 (some (B r_))) 4 (some (lstV za 0 1 a_.length))) 5 (some (lstV zb 1 1 b_.length))) 6 (some (I i_))), (upd (upd (fun _ => none) 0 (lstB za 1 (a_.map eI))) 1 (lstB zb 1 (b_.map eI))), 2⟩ → (AThen (fun s' => ∃ s'' k', Weak 0 s' s'' ∧ k' < k + 1 ∧ (fun k s => ∃ (a_ : (List Int)), ∃ (b_ : (List Int)), ∃ (i_ : Int), ∃ (za : Bool), (za = true → a_ = []) ∧ ∃ (zb : Bool), (zb = true → b_ = []) ∧ clerestorylaw2_CascadeOrders_l0 r_1 r_ K0_ k a_ b_ i_ = some o ∧ s = ⟨(upd (upd (upd (upd (upd (fun _ => none) 0 (some (.c (.ro false 6 (r_1.map e_TSGiven))))) 3 (some (B r_))) 4 (some (lstV za 0 1 a_.length))) 5 (some (lstV zb 1 1 b_.length))) 6 (some (I i_))), (upd (upd (fun _ => none) 0 (lstB za 1 (a_.map eI))) 1 (lstB zb 1 (b_.map eI))), 2⟩) k' s'') Q) .normal s := fun a_ b_ i_ za hza zb hzb h s hw => ⟨_, k, hw, Nat.lt_succ_self k, a_, b_, i_, za, hza, zb, hzb, h, rfl⟩
  refine Sv.seq ?_
  refine Sv.seq ?_
  refine Sv.region ?_
  refine un (a1 rfl ?_)
  refine un (a1 rfl ?_)
  refine un (a1 (v := (I (a_.length : Int))) (s_lenL rfl (len_nil_of hza)) ?_)
  refine un (a1 (v := (B (decide (i_ < (a_.length : Int))))) rfl ?_)
  refine dnil ?_
  refine Sv.cond (b := decide (i_ < (a_.length : Int))) rfl (fun hc2 => ?_) (fun hc2 => ?_)
  · replace h := ifT hc2 h
    refine Sv.skip ?_
    refine Sv.seq ?_
    refine Sv.block ?_
    refine Sv.seq ?_
    refine Sv.drawn ?_
    refine un (a1 rfl ?_)
    refine un (a1 rfl ?_)
    obtain ⟨x_, hx2, h⟩ := bnd h
    refine un (a1 (v := (.c (.ref 0 1 i_.toNat 0))) (s_iaddrL rfl rfl hza hx2) ?_)
    refine un (a1 (v := (I x_)) (s_loadL (e := eI) rfl rfl hza hx2 rfl rfl) ?_)
    refine un (a1 rfl ?_)
    refine un (a1 rfl ?_)
    obtain ⟨x_1, hx3, h⟩ := bnd h
    refine un (a1 (v := (.c (.ref 1 1 i_.toNat 0))) (s_iaddrL rfl rfl hzb hx3) ?_)
    refine un (a1 (v := (I x_1)) (s_loadL (e := eI) rfl rfl hzb hx3 rfl rfl) ?_)
    refine un (a1 (v := (B (!decide (x_ = x_1)))) rfl ?_)
    refine un (a1 rfl ?_)
    refine split2 (fun hc4 => ?_) (fun hc4 => ?_)
    · replace h := ifT hc4 h
      refine gs rfl rfl ?_
      refine gs rfl rfl ?_
      refine gs rfl rfl ?_
      refine gu rfl ?_
      refine gu rfl ?_
      refine gu rfl ?_
      refine gu rfl ?_
      refine gu rfl ?_
      refine gu rfl ?_
      refine gu rfl ?_
      refine gu rfl ?_
      refine gu rfl ?_
      refine gu rfl ?_
      refine gu rfl ?_
      refine gu rfl ?_
      refine gu rfl ?_
      refine gu rfl ?_
      refine gu rfl ?_
      refine gu rfl ?_
      refine gu rfl ?_
      refine gu rfl ?_
      refine gu rfl ?_
      refine gu rfl ?_
      refine gu rfl ?_
      refine gu rfl ?_
      refine gu rfl ?_
      refine gu rfl ?_
      refine gu rfl ?_
      refine gu rfl ?_
      refine gu rfl ?_
      refine gu rfl ?_
      refine gu rfl ?_
      refine gu rfl ?_
      refine gu rfl ?_
      refine gu rfl ?_
      refine gu rfl ?_
      refine gs rfl rfl ?_
      refine un (a1 (v := (B true)) rfl ?_)
      refine dnil ?_
      exact Sv.weak (weak_canon [0, 1] rfl (by decide) (by decide) (fun b h => absurd h (Nat.not_lt_zero _)) (.cons rfl (avAs_free rfl) (.cons rfl (avAs_free rfl) (.cons rfl (.c (lstC_ren rfl (by decide))) (.cons rfl (.c (lstC_ren rfl (by decide))) (.cons rfl (avAs_free rfl) (.cons rfl (avAs_free rfl) .nil)))))) (.row (by decide) rfl (fr_map fun _ => rfl) (.row (by decide) rfl (fr_map fun _ => rfl) .nil))) (clerestorylaw2_CascadeOrders_j3_ok hza hzb h hself hK0 hr)
    · replace h := ifF hc4 h
      refine gt rfl (a1 rfl ?_)
      refine gt rfl (a1 (v := (B (decide (0 < i_)))) rfl ?_)
      refine gt rfl (a1 rfl ?_)
      refine split2 (fun hc5 => ?_) (fun hc5 => ?_)
      · replace h := ifT hc5 h
        refine gt rfl (a1 rfl ?_)
        refine gt rfl (a1 rfl ?_)
        refine gt rfl (a1 rfl ?_)
        obtain ⟨x_2, hx4, h⟩ := bnd h
        refine gt rfl (a1 (v := (.c (.ref 0 1 i_.toNat 0))) (s_iaddrL rfl rfl hza hx4) ?_)
        refine gt rfl (a1 (v := (I x_2)) (s_loadL (e := eI) rfl rfl hza hx4 rfl rfl) ?_)
        obtain ⟨x_3, hx5, h⟩ := bnd h
        refine gt rfl (a1 (v := (.c (.rop [.str x_3.Name, .str x_3.Value, cI x_3.Origin, cB x_3.Important, cI x_3.Weight, cI x_3.Place]))) (s_iaddr (e := e_TSGiven) (xs := r_1) rfl rfl hx5) ?_)
        refine gt rfl (a1 (v := (.agg [.str x_3.Name, .str x_3.Value, cI x_3.Origin, cB x_3.Important, cI x_3.Weight, cI x_3.Place])) rfl ?_)
        refine gt rfl (a1 rfl ?_)
        refine gt rfl (a1 rfl ?_)
        refine gt rfl (a1 rfl ?_)
        refine gt rfl (a1 (v := (I (wi (i_ - 1)))) rfl ?_)
        obtain ⟨x_4, hx6, h⟩ := bnd h
        refine gt rfl (a1 (v := (.c (.ref 0 1 (wi (i_ - 1)).toNat 0))) (s_iaddrL rfl rfl hza hx6) ?_)
        refine gt rfl (a1 (v := (I x_4)) (s_loadL (e := eI) rfl rfl hza hx6 rfl rfl) ?_)
        obtain ⟨x_5, hx7, h⟩ := bnd h
        refine gt rfl (a1 (v := (.c (.rop [.str x_5.Name, .str x_5.Value, cI x_5.Origin, cB x_5.Important, cI x_5.Weight, cI x_5.Place]))) (s_iaddr (e := e_TSGiven) (xs := r_1) rfl rfl hx7) ?_)
        refine gt rfl (a1 (v := (.agg [.str x_5.Name, .str x_5.Value, cI x_5.Origin, cB x_5.Important, cI x_5.Weight, cI x_5.Place])) rfl ?_)
        refine gt rfl (a1 rfl ?_)
        refine gt rfl (a1 rfl ?_)
        refine gt rfl (a1 rfl ?_)
        obtain ⟨x_6, hx8, h⟩ := bnd h
        refine gt rfl (a1 (v := (.c (.ref 0 1 i_.toNat 0))) (s_iaddrL rfl rfl hza hx8) ?_)
        refine gt rfl (a1 (v := (I x_6)) (s_loadL (e := eI) rfl rfl hza hx8 rfl rfl) ?_)
        obtain ⟨x_7, hx9, h⟩ := bnd h
        refine gt rfl (a1 (v := (.c (.rop [.str x_7.Name, .str x_7.Value, cI x_7.Origin, cB x_7.Important, cI x_7.Weight, cI x_7.Place]))) (s_iaddr (e := e_TSGiven) (xs := r_1) rfl rfl hx9) ?_)
        refine gt rfl (a1 (v := (.agg [.str x_7.Name, .str x_7.Value, cI x_7.Origin, cB x_7.Important, cI x_7.Weight, cI x_7.Place])) rfl ?_)
        refine gt rfl (a1 rfl ?_)
        refine gt rfl (a1 rfl ?_)
        refine gt rfl (a1 rfl ?_)
        refine gt rfl (a1 (v := (I (wi (i_ - 1)))) rfl ?_)
        obtain ⟨x_8, hx10, h⟩ := bnd h
        refine gt rfl (a1 (v := (.c (.ref 0 1 (wi (i_ - 1)).toNat 0))) (s_iaddrL rfl rfl hza hx10) ?_)
        refine gt rfl (a1 (v := (I x_8)) (s_loadL (e := eI) rfl rfl hza hx10 rfl rfl) ?_)
        obtain ⟨x_9, hx11, h⟩ := bnd h
        refine gt rfl (a1 (v := (.c (.rop [.str x_9.Name, .str x_9.Value, cI x_9.Origin, cB x_9.Important, cI x_9.Weight, cI x_9.Place]))) (s_iaddr (e := e_TSGiven) (xs := r_1) rfl rfl hx11) ?_)
        refine gt rfl (a1 (v := (.agg [.str x_9.Name, .str x_9.Value, cI x_9.Origin, cB x_9.Important, cI x_9.Weight, cI x_9.Place])) rfl ?_)
        obtain ⟨r_4, hr4, h⟩ := bnd h
        refine gt rfl (ac_pure (cascade_Less_ok hr4) rfl rfl rfl ?_)
        refine gt rfl (ac_pure (clerestoryref2_Later_ok (Γ := Γ) x_7 x_9) rfl rfl rfl ?_)
        refine gt rfl (a1 (v := (B (!((r_4 == (clerestoryref2_Later x_7 x_9)) && true)))) rfl ?_)
        refine gt rfl (a1 (v := (B (!((r_4 == (clerestoryref2_Later x_7 x_9)) && true)))) rfl ?_)
        refine un (a1 (v := (B (!((r_4 == (clerestoryref2_Later x_7 x_9)) && true)))) rfl ?_)
        refine dnil ?_
        exact Sv.weak (weak_canon [0, 1] rfl (by decide) (by decide) (fun b h => absurd h (Nat.not_lt_zero _)) (.cons rfl (avAs_free rfl) (.cons rfl (avAs_free rfl) (.cons rfl (.c (lstC_ren rfl (by decide))) (.cons rfl (.c (lstC_ren rfl (by decide))) (.cons rfl (avAs_free rfl) (.cons rfl (avAs_free rfl) .nil)))))) (.row (by decide) rfl (fr_map fun _ => rfl) (.row (by decide) rfl (fr_map fun _ => rfl) .nil))) (clerestorylaw2_CascadeOrders_j3_ok hza hzb h hself hK0 hr)
      · replace h := ifF hc5 h
        refine gs rfl rfl ?_
        refine gs rfl rfl ?_
        refine gs rfl rfl ?_
        refine gs rfl rfl ?_
        refine gs rfl rfl ?_
        refine gs rfl rfl ?_
        refine gs rfl rfl ?_
        refine gs rfl rfl ?_
        refine gs rfl rfl ?_
        refine gs rfl rfl ?_
        refine gs rfl rfl ?_
        refine gs rfl rfl ?_
        refine gs rfl rfl ?_
        refine gs rfl rfl ?_
        refine gs rfl rfl ?_
        refine gs rfl rfl ?_
        refine gs rfl rfl ?_
        refine gs rfl rfl ?_
        refine gs rfl rfl ?_
        refine gs rfl rfl ?_
        refine gs rfl rfl ?_
        refine gs rfl rfl ?_
        refine gs rfl rfl ?_
        refine gs rfl rfl ?_
        refine gs rfl rfl ?_
        refine gs rfl rfl ?_
        refine gs rfl rfl ?_
        refine gs rfl rfl ?_
        refine gs rfl rfl ?_
        refine gs rfl rfl ?_
        refine gs rfl rfl ?_
        refine gs rfl rfl ?_
        refine gs rfl rfl ?_
        refine gt rfl (a1 (v := (B false)) rfl ?_)
        refine un (a1 (v := (B false)) rfl ?_)
        refine dnil ?_
        exact Sv.weak (weak_canon [0, 1] rfl (by decide) (by decide) (fun b h => absurd h (Nat.not_lt_zero _)) (.cons rfl (avAs_free rfl) (.cons rfl (avAs_free rfl) (.cons rfl (.c (lstC_ren rfl (by decide))) (.cons rfl (.c (lstC_ren rfl (by decide))) (.cons rfl (avAs_free rfl) (.cons rfl (avAs_free rfl) .nil)))))) (.row (by decide) rfl (fr_map fun _ => rfl) (.row (by decide) rfl (fr_map fun _ => rfl) .nil))) (clerestorylaw2_CascadeOrders_j3_ok hza hzb h hself hK0 hr)
  · replace h := ifF hc2 h
    refine Sv.exit ?_
    exact hK0 () h _ (weak_canon [] rfl (by decide) (by decide) (fun b h => absurd h (Nat.not_lt_zero _)) (.cons rfl (avAs_free rfl) .nil) .nil)
/-- clerestory/clerestorylaw2.CascadeOrders -/
noncomputable def clerestorylaw2_CascadeOrders (l_ : (List TSGiven)) : Option Bool :=
  (clerestorylaw2_own).bind fun r_ =>
  (sub? l_ 0 (mn (l_.length : Int) 60)).bind fun r_1 =>
  (cascade_Order r_1).bind fun r_2 =>
  (clerestoryref2_OrderOf r_1).bind fun r_3 =>
  if (!decide ((r_2.length : Int) = (r_3.length : Int))) then
    some false
  else
    lim fun kk => clerestorylaw2_CascadeOrders_l0 r_1 r_ (fun (_ : Unit) => 
        some r_) kk r_2 r_3 0
theorem clerestorylaw2_CascadeOrders_ok {Γ : Glob} {l_ : (List TSGiven)} {r : Bool} (h : clerestorylaw2_CascadeOrders l_ = some r) : CPure Try.prog Γ 10 [(.c (.ro false 6 (l_.map e_TSGiven)))] (B r) := by
  refine acalls_of_sv hmix c10 (R := clerestorylaw2_CascadeOrders_post r) ?_
  unfold clerestorylaw2_CascadeOrders at h
  refine Sv.seq ?_
  refine Sv.region ?_
  refine un (a1 rfl ?_)
  refine dnil ?_
  refine Sv.seq ?_
  refine Sv.region ?_
  obtain ⟨r_, hr1, h⟩ := bnd h
  refine un (ac_pure (clerestorylaw2_own_ok hr1) rfl rfl rfl ?_)
  refine un (a1 rfl ?_)
  refine dnil ?_
  refine Sv.seq ?_
  refine Sv.region ?_
  refine un (a1 rfl ?_)
  refine un (a1 rfl ?_)
  refine un (a1 (v := (I (l_.length : Int))) (s_len (e := e_TSGiven) (xs := l_) rfl) ?_)
  refine un (a1 (v := (I (mn (l_.length : Int) 60))) (s_mn rfl rfl) ?_)
  obtain ⟨r_1, hx1, h⟩ := bnd h
  refine un (a1 (v := (.c (.ro false 6 (r_1.map e_TSGiven)))) (s_slSl (e := e_TSGiven) rfl rfl rfl hx1) ?_)
  refine un (a1 rfl ?_)
  refine dnil ?_
  refine Sv.seq ?_
  refine Sv.region ?_
  refine un (a1 rfl ?_)
  obtain ⟨r_2, hr2, h⟩ := bnd h
  refine un (ac_gen (bs := []) («as» := [(.c (.ro false 6 (r_1.map e_TSGiven)))]) (h2 := _) (h1 := (fun _ => none)) (cascade_Order_ok hr2) rfl (.cons (avAs_free rfl) .nil) (hsub_refl _) (.nil _) (fun _ => rfl) (by decide) (by decide) (.cons (avAs_free rfl) .nil) .nil ?_)
  rintro _ _ _ hn ⟨z_, hz_, rfl, rfl, rfl⟩
  refine ⟨.inl rfl, (upd (rem [] _) 0 (lstB z_ 1 (r_2.map eI))), fun hbd => (m3_cons (m3_row rfl (fr_map fun _ => rfl)) (m3_rem (in_nil _) (.cons (by decide) .nil) hbd)), (lstV z_ 0 1 r_2.length), 1, (by cases z_ <;> rfl), rfl, ?_⟩
  refine un (a1 rfl ?_)
  refine dnil ?_
  refine Sv.seq ?_
  refine Sv.region ?_
  refine un (a1 rfl ?_)
  obtain ⟨r_3, hr3, h⟩ := bnd h
  refine un (ac_gen (bs := []) («as» := [(.c (.ro false 6 (r_1.map e_TSGiven)))]) (h2 := _) (h1 := (fun _ => none)) (clerestoryref2_OrderOf_ok hr3) rfl (.cons (avAs_free rfl) .nil) (hsub_refl _) (.nil _) (fun _ => rfl) (by decide) (by decide) (.cons (avAs_free rfl) .nil) .nil ?_)
  rintro _ _ _ hn ⟨z_1, hz_1, rfl, rfl, rfl⟩
  refine ⟨.inl rfl, (upd (rem [] _) 1 (lstB z_1 1 (r_3.map eI))), fun hbd => (m3_cons (m3_row rfl (fr_map fun _ => rfl)) (m3_rem (in_nil _) (.cons (by decide) .nil) hbd)), (lstV z_1 1 1 r_3.length), 2, (by cases z_1 <;> rfl), rfl, ?_⟩
  refine un (a1 rfl ?_)
  refine dnil ?_
  refine Sv.seq ?_
  refine Sv.seq ?_
  refine Sv.region ?_
  refine un (a1 rfl ?_)
  refine un (a1 (v := (I (r_2.length : Int))) (s_lenL rfl (len_nil_of hz_)) ?_)
  refine un (a1 rfl ?_)
  refine un (a1 (v := (I (r_3.length : Int))) (s_lenL rfl (len_nil_of hz_1)) ?_)
  refine un (a1 (v := (B (!decide ((r_2.length : Int) = (r_3.length : Int))))) rfl ?_)
  refine dnil ?_
  refine Sv.cond (b := (!decide ((r_2.length : Int) = (r_3.length : Int)))) rfl (fun hc1 => ?_) (fun hc1 => ?_)
  · replace h := ifT hc1 h
    refine Sv.seq ?_
    refine Sv.region ?_
    refine un (a1 rfl ?_)
    refine dnil ?_
    refine Sv.ret ?_
    replace h := Option.some.inj h
    subst h
    exact ⟨_, .refl _, _, rfl, ⟨upd (fun _ => none) 0 (some (B false)), (fun _ => none), 0⟩, (B false), weak_canon [] rfl List.nodup_nil (Nat.le_refl _) (fun b h => absurd h (Nat.not_lt_zero _)) (.cons rfl (avAs_free rfl) .nil) .nil, rfl, rfl, rfl, rfl⟩
  · replace h := ifF hc1 h
    refine Sv.skip ?_
    refine Sv.seq ?_
    refine Sv.seq ?_
    refine Sv.region ?_
    refine un (a1 rfl ?_)
    refine dnil ?_
    refine Sv.block ?_
    obtain ⟨kk, h⟩ := lim_some h
    refine Sv.weak (weak_canon [0, 1] rfl (by decide) (by decide) (fun b h => absurd h (Nat.not_lt_zero _)) (.cons rfl (avAs_free rfl) (.cons rfl (.c (lstC_ren rfl (by decide))) (.cons rfl (.c (lstC_ren rfl (by decide))) (.cons rfl (avAs_free rfl) (.cons rfl (avAs_free rfl) .nil))))) (.row (by decide) rfl (fr_map fun _ => rfl) (.row (by decide) rfl (fr_map fun _ => rfl) .nil))) (clerestorylaw2_CascadeOrders_l0_ok hz_ hz_1 h ?_ (fun s hs => hs))
    · intro _ h _ hw1
      refine Sv.weak hw1 ?_
      refine Sv.seq ?_
      refine Sv.region ?_
      refine un (a1 rfl ?_)
      refine un (a1 rfl ?_)
      refine dnil ?_
      refine Sv.ret ?_
      replace h := Option.some.inj h
      subst h
      exact ⟨_, .refl _, _, rfl, ⟨upd (fun _ => none) 0 (some (B r_)), (fun _ => none), 0⟩, (B r_), weak_canon [] rfl List.nodup_nil (Nat.le_refl _) (fun b h => absurd h (Nat.not_lt_zero _)) (.cons rfl (avAs_free rfl) .nil) .nil, rfl, rfl, rfl, rfl⟩
end Go.Proofs.YtgfcmhomndofaaaBv
