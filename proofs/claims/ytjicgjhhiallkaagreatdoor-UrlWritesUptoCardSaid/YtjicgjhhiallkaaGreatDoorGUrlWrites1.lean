/- Printed by a program of mine (bgen.py): plain functions, and the walks that show that the code comes to what they answer. -/
import Derived.Test.YtjicgjhhiallkaaGreatDoorGUrlWrites0
namespace Go.Proofs.YtjicgjhhiallkaaGreatDoorBv
open Go
set_option linter.unusedVariables false
set_option linter.unusedSimpArgs false
set_option maxRecDepth 100000
def a24_c0 : ACode := (.seq (.region [(mV 35 4), (mV 36 0), (oP 37 (.len (.tmp 36))), ⟨(some 38), (.bin .sub (.tmp 37) (kI 1)), none⟩, (oP 39 (.bin .eql (.tmp 35) (.tmp 38)))])
 (.cond (.tmp 39) (.region [(mV 40 3), ⟨(some 41), (.bslice 1 [(.str [])] 1 [(0, (.const (.c (.str []))))]), none⟩, (oP 42 (.app 1 16 (.tmp 40) (.tmp 41))), (mV 3 42)]) .skip))
def a24_c1 : ACode := (.region [⟨(some 43), (.bin .add (.tmp 8) (kI 1)), none⟩, (mV 8 43)])
def a24_c2 : ACode := (.seq (.region [(oP 9 (.bin .lss (.tmp 8) (.tmp 7)))])
 (.seq (.cond (.tmp 9) .skip (.exit 0))
 (.seq (.block 1 (.seq (.region [(mV 10 8), (oP 11 (.iaddr 1 (.tmp 6) (.tmp 8))), (oP 12 (.load false 1 (.tmp 11))), (mV 4 10), (mV 5 12)])
 (.seq (.seq (.region [(mV 13 5), ⟨(some 14), (.bin .neq (.tmp 13) (.const (.c (.str [46])))), none⟩, (mV 15 14), ⟨(some 16), (.mov (.tmp 5)), (some (15, true))⟩, ⟨(some 17), (.bin .neq (.tmp 16) (.const (.c (.str [46, 46])))), (some (15, true))⟩, ⟨(some 18), (.pick (.tmp 15) (.tmp 17) (.const (.c (.val (.bool false))))), none⟩])
 (.cond (.tmp 18) (.seq (.region [(mV 19 3), (mV 20 5), (oP 21 (.bslice 1 [(.str [])] 1 [(0, (.tmp 20))])), (oP 22 (.app 1 16 (.tmp 19) (.tmp 21))), (mV 3 22)])
 (.exit 1)) .skip))
 (.seq (.seq (.region [(mV 23 5), ⟨(some 24), (.bin .eql (.tmp 23) (.const (.c (.str [46, 46])))), none⟩, (mV 25 24), ⟨(some 26), (.mov (.tmp 3)), (some (25, true))⟩, ⟨(some 27), (.len (.tmp 26)), (some (25, true))⟩, ⟨(some 28), (.bin .gtr (.tmp 27) (kI 0)), (some (25, true))⟩, ⟨(some 29), (.pick (.tmp 25) (.tmp 28) (.const (.c (.val (.bool false))))), none⟩])
 (.cond (.tmp 29) (.region [(mV 30 3), (mV 31 3), (oP 32 (.len (.tmp 31))), ⟨(some 33), (.bin .sub (.tmp 32) (kI 1)), none⟩, (oP 34 (.slSl 1 (.tmp 30) none (some (.tmp 33)) none)), (mV 3 34)]) .skip))
 a24_c0))))
 a24_c1)))
def a24_c3 : ACode := (.seq (.region [(mV 48 3), (mV 2 48)])
 .ret)
def a24 : AFunc := ⟨1, [(.tmp 2)], (.seq (.region [⟨(some 2), (.mov (.const (.c (.ro true 1 [])))), none⟩])
 (.seq (.region [⟨(some 3), (.mov (.const (.c (.ro true 1 [])))), none⟩])
 (.seq (.seq (.region [(mV 6 0), (oP 7 (.len (.tmp 6))), ⟨(some 8), (.mov (kI 0)), none⟩])
 (.block 0 (.loop a24_c2)))
 (.seq (.seq (.region [(mV 44 3), (oP 45 (.len (.tmp 44))), ⟨(some 46), (.bin .eql (.tmp 45) (kI 0)), none⟩])
 (.cond (.tmp 46) (.region [⟨(some 47), (.bslice 1 [(.str [])] 1 [(0, (.const (.c (.str []))))]), none⟩, (mV 3 47)]) .skip))
 a24_c3))))⟩
set_option maxRecDepth 100000 in
theorem c24 : compFunc Tryz.prog 24 = some a24 := by kernel_rfl
def url_tidy_post (r : TT) : AV → Heap → Nat → Prop := fun v h' n' => ∃ z0 : Bool, (z0 = true → r = []) ∧ v = (lstV z0 0 1 r.length) ∧ (h' = (upd e0 0 (lstB z0 1 (r.map eStr)))) ∧ n' = 1
noncomputable def url_tidy_j11 (v8 : Int) (l_ : TT) (self : TT → Int → Option TT) (K0_ : TT → Option TT) (out2 : TT) : Option TT :=
 self out2 (wi (v8 + 1))
theorem url_tidy_j11_ok {mL : Int} {Q : AExit → St → Prop} {v8 : Int} {l_ : TT} {self : TT → Int → Option TT} {K0_ : TT → Option TT} {out2 : TT} {zout2 : Bool} (hzout2 : zout2 = true → out2 = []) {o : TT} (h : url_tidy_j11 v8 l_ self K0_ out2 = some o)
  (hself : ∀ (out : TT) (v8 : Int) (zout : Bool) (_ : zout = true → out = []), self out v8 = some o → ∀ s, Weak 0 s ⟨(upd (upd (upd (upd (upd e0 0 (some (.c (.ro false 1 (l_.map eStr))))) 3 (some (lstV zout 0 1 out.length))) 6 (some (.c (.ro false 1 (l_.map eStr))))) 7 (some (I (l_.length : Int)))) 8 (some (I v8))), (upd e0 0 (lstB zout 1 (out.map eStr))), 1⟩ → (Q) .normal s)
  (hK0 : ∀ (out1 : TT) (zout1 : Bool) (_ : zout1 = true → out1 = []), K0_ out1 = some o → ∀ s, Weak 0 s ⟨(upd e0 3 (some (lstV zout1 0 1 out1.length))), (upd e0 0 (lstB zout1 1 (out1.map eStr))), 1⟩ → Q (.exit 0) s)
  (hr : ∀ s, Ends a24.results 0 (url_tidy_post o) .ret s → Q .ret s) :
  Sv Tryz.prog (GG mL) 0 a24_c1 Q ⟨(upd (upd (upd (upd (upd e0 0 (some (.c (.ro false 1 (l_.map eStr))))) 3 (some (lstV zout2 0 1 out2.length))) 6 (some (.c (.ro false 1 (l_.map eStr))))) 7 (some (I (l_.length : Int)))) 8 (some (I v8))), (upd e0 0 (lstB zout2 1 (out2.map eStr))), 1⟩ := by
 unfold url_tidy_j11 at h
 refine srg <| un1 (v := (I (wi (v8 + 1)))) rfl <| un1 rfl <| dnil ?_
 exact hself out2 (wi (v8 + 1)) zout2 hzout2 h _ (wcn [0] rfl (.cf rfl rfl (.cf rfl rfl (.cf rfl rfl (.cons rfl (.c (lstC_ren rfl (by decide))) (.cf rfl rfl .nil))))) (.row (by decide) rfl (fr_map fun _ => rfl) .nil))
abbrev url_tidy_q0 (mL : Int) (Q : AExit → St → Prop) : AExit → St → Prop := AThen (Sv Tryz.prog (GG mL) 0 a24_c1 Q) Q
abbrev url_tidy_q1 (mL : Int) (Q : AExit → St → Prop) : AExit → St → Prop := ABlock 1 (url_tidy_q0 mL Q)
noncomputable def url_tidy_j12 (v8 : Int) (l_ : TT) (self : TT → Int → Option TT) (K0_ : TT → Option TT) (out3 : TT) : Option TT :=
 if decide (v8 = (wi ((l_.length : Int) - 1))) then
  (app? 16 out3 ([[]] : TT)).bind fun r_1 =>
  url_tidy_j11 v8 l_ self K0_ r_1
 else
  url_tidy_j11 v8 l_ self K0_ out3
theorem url_tidy_j12_ok {mL : Int} {Q : AExit → St → Prop} {v8 : Int} {l_ : TT} {self : TT → Int → Option TT} {K0_ : TT → Option TT} {out3 : TT} {zout3 : Bool} (hzout3 : zout3 = true → out3 = []) {o : TT} (h : url_tidy_j12 v8 l_ self K0_ out3 = some o)
  (hself : ∀ (out : TT) (v8 : Int) (zout : Bool) (_ : zout = true → out = []), self out v8 = some o → ∀ s, Weak 0 s ⟨(upd (upd (upd (upd (upd e0 0 (some (.c (.ro false 1 (l_.map eStr))))) 3 (some (lstV zout 0 1 out.length))) 6 (some (.c (.ro false 1 (l_.map eStr))))) 7 (some (I (l_.length : Int)))) 8 (some (I v8))), (upd e0 0 (lstB zout 1 (out.map eStr))), 1⟩ → (Q) .normal s)
  (hK0 : ∀ (out1 : TT) (zout1 : Bool) (_ : zout1 = true → out1 = []), K0_ out1 = some o → ∀ s, Weak 0 s ⟨(upd e0 3 (some (lstV zout1 0 1 out1.length))), (upd e0 0 (lstB zout1 1 (out1.map eStr))), 1⟩ → Q (.exit 0) s)
  (hr : ∀ s, Ends a24.results 0 (url_tidy_post o) .ret s → Q .ret s) :
  Sv Tryz.prog (GG mL) 0 a24_c0 (url_tidy_q1 mL Q) ⟨(upd (upd (upd (upd (upd (upd e0 0 (some (.c (.ro false 1 (l_.map eStr))))) 3 (some (lstV zout3 0 1 out3.length))) 4 (some (I v8))) 6 (some (.c (.ro false 1 (l_.map eStr))))) 7 (some (I (l_.length : Int)))) 8 (some (I v8))), (upd e0 0 (lstB zout3 1 (out3.map eStr))), 1⟩ := by
 unfold url_tidy_j12 at h
 refine ssr <| un1 rfl <| un1 rfl <| un1 (v := (I (l_.length : Int))) (s_len (e := eStr) (xs := l_) rfl) <| un1 (v := (I (wi ((l_.length : Int) - 1)))) rfl <| un1 (v := (B (decide (v8 = (wi ((l_.length : Int) - 1)))))) rfl <| dnil ?_
 refine Sv.cond (b := decide (v8 = (wi ((l_.length : Int) - 1)))) rfl (fun hc4 => ?_) (fun hc4 => ?_)
 ·replace h := ifT hc4 h
  refine srg <| un1 rfl <| un <| a2v (v := (lstV false 1 1 ([[]] : TT).length)) (h' := upd _ 1 (lstB false 1 (([[]] : TT).map eStr))) (n' := 2) rfl rfl (fun h => by cases h) ?_
  obtain ⟨r_1, hr2, h⟩ := bnd h
  have hz2 : (zout3 && ([[]] : TT).isEmpty) = true → r_1 = [] := app_nil (z := zout3) (ys := ([[]] : TT)) hzout3 hr2
  refine un <| a2v rfl (s_app (xs := out3) (ys := ([[]] : TT)) (e := eStr) (z := zout3) (b := 0) rfl rfl hzout3 rfl rfl (slc_lst rfl (List.length_map _).symm (map_nil_of (fun h => by cases h))) hr2) (fun h => by cases h) <| un1 rfl <| dnil ?_
  exact Sv.weak (wcn [2] rfl (.cf rfl rfl (.cf rfl rfl (.cf rfl rfl (.cons rfl (.c (lstC_ren rfl (by decide))) (.cf rfl rfl .nil))))) (.row (by decide) rfl (fr_map fun _ => rfl) .nil)) (url_tidy_j11_ok hz2 h hself hK0 hr)
 ·replace h := ifF hc4 h
  refine Sv.skip ?_
  exact Sv.weak (wcn [0] rfl (.cf rfl rfl (.cf rfl rfl (.cf rfl rfl (.cons rfl (.c (lstC_ren rfl (by decide))) (.cf rfl rfl .nil))))) (.row (by decide) rfl (fr_map fun _ => rfl) .nil)) (url_tidy_j11_ok hzout3 h hself hK0 hr)
noncomputable def url_tidy_l0 (l_ : TT) (K0_ : TT → Option TT) : Nat → TT → Int → Option TT
 | 0, _, _ => none
 | k + 1, out, v8 =>
  if decide (v8 < (l_.length : Int)) then
   (at? l_ v8).bind fun x_ =>
   if ((!decide (x_ = [46])) && (!decide (x_ = [46, 46]))) then
    (app? 16 out [x_]).bind fun r_ =>
    url_tidy_j11 v8 l_ (url_tidy_l0 l_ K0_ k) K0_ r_
   else
    if ((decide (x_ = [46, 46])) && (decide (0 < (out.length : Int)))) then
     (sub? out 0 (wi ((out.length : Int) - 1))).bind fun r_2 =>
     url_tidy_j12 v8 l_ (url_tidy_l0 l_ K0_ k) K0_ r_2
    else
     url_tidy_j12 v8 l_ (url_tidy_l0 l_ K0_ k) K0_ out
  else
   K0_ out
theorem url_tidy_l0_ok {mL : Int} {Q : AExit → St → Prop} {l_ : TT} {K0_ : TT → Option TT} {k : Nat} {out : TT} {v8 : Int} {zout : Bool} (hzout : zout = true → out = []) {o : TT} (h : url_tidy_l0 l_ K0_ k out v8 = some o)
  (hK0 : ∀ (out1 : TT) (zout1 : Bool) (_ : zout1 = true → out1 = []), K0_ out1 = some o → ∀ s, Weak 0 s ⟨(upd e0 3 (some (lstV zout1 0 1 out1.length))), (upd e0 0 (lstB zout1 1 (out1.map eStr))), 1⟩ → Q (.exit 0) s)
  (hr : ∀ s, Ends a24.results 0 (url_tidy_post o) .ret s → Q .ret s) :
  Sv Tryz.prog (GG mL) 0 (.loop a24_c2) Q ⟨(upd (upd (upd (upd (upd e0 0 (some (.c (.ro false 1 (l_.map eStr))))) 3 (some (lstV zout 0 1 out.length))) 6 (some (.c (.ro false 1 (l_.map eStr))))) 7 (some (I (l_.length : Int)))) 8 (some (I v8))), (upd e0 0 (lstB zout 1 (out.map eStr))), 1⟩ := by
 refine Sv.loop (I := fun k s => ∃ (out : TT), ∃ (v8 : Int), ∃ (zout : Bool), (zout = true → out = []) ∧ url_tidy_l0 l_ K0_ k out v8 = some o ∧ s = ⟨(upd (upd (upd (upd (upd e0 0 (some (.c (.ro false 1 (l_.map eStr))))) 3 (some (lstV zout 0 1 out.length))) 6 (some (.c (.ro false 1 (l_.map eStr))))) 7 (some (I (l_.length : Int)))) 8 (some (I v8))), (upd e0 0 (lstB zout 1 (out.map eStr))), 1⟩) (fun k s hI => ?_) ⟨out, v8, zout, hzout, h, rfl⟩
 clear h
 clear hzout zout v8 out
 obtain ⟨out, v8, zout, hzout, h, rfl⟩ := hI
 cases k with
 | zero => cases h
 | succ k =>
 rw [url_tidy_l0] at h
 have hself : ∀ (out : TT) (v8 : Int) (zout : Bool) (_ : zout = true → out = []), (url_tidy_l0 l_ K0_ k) out v8 = some o → ∀ s, Weak 0 s ⟨(upd (upd (upd (upd (upd e0 0 (some (.c (.ro false 1 (l_.map eStr))))) 3 (some (lstV zout 0 1 out.length))) 6 (some (.c (.ro false 1 (l_.map eStr))))) 7 (some (I (l_.length : Int)))) 8 (some (I v8))), (upd e0 0 (lstB zout 1 (out.map eStr))), 1⟩ → (AThen (fun s' => ∃ s'' k', Weak 0 s' s'' ∧ k' < k + 1 ∧ (fun k s => ∃ (out : TT), ∃ (v8 : Int), ∃ (zout : Bool), (zout = true → out = []) ∧ url_tidy_l0 l_ K0_ k out v8 = some o ∧ s = ⟨(upd (upd (upd (upd (upd e0 0 (some (.c (.ro false 1 (l_.map eStr))))) 3 (some (lstV zout 0 1 out.length))) 6 (some (.c (.ro false 1 (l_.map eStr))))) 7 (some (I (l_.length : Int)))) 8 (some (I v8))), (upd e0 0 (lstB zout 1 (out.map eStr))), 1⟩) k' s'') Q) .normal s := fun out v8 zout hzout h s hw => ⟨_, k, hw, Nat.lt_succ_self k, out, v8, zout, hzout, h, rfl⟩
 refine ssr <| un1 (v := (B (decide (v8 < (l_.length : Int))))) rfl <| dnil <| Sv.seq ?_
 refine Sv.cond (b := decide (v8 < (l_.length : Int))) rfl (fun hc1 => ?_) (fun hc1 => ?_)
 ·replace h := ifT hc1 h
  refine Sv.skip <| Sv.seq <| Sv.block <| ssr <| un1 rfl ?_
  obtain ⟨x_, hx1, h⟩ := bnd h
  refine un1 (v := (.c (.rop [.str x_]))) (s_iaddr (e := eStr) (xs := l_) rfl rfl hx1) <| un1 (v := (S x_)) rfl <| un1 rfl <| un1 rfl <| dnil <| Sv.seq <| ssr <| un1 rfl <| un1 (v := (B (!decide (x_ = [46])))) rfl <| un1 rfl ?_
  refine gjoin 3 (d := 18) (v := (B ((!decide (x_ = [46])) && (!decide (x_ = [46, 46]))))) (fun X hX => ?_) ?_
  ·refine split2 (fun hc2 => ?_) (fun hc2 => ?_)
   ·refine gt rfl <| a1 rfl <| gt rfl <| a1 (v := (B (!decide (x_ = [46, 46])))) rfl <| un1 (v := (B (!decide (x_ = [46, 46])))) rfl <| dnil ?_
    exact hX _ (.putEq (by rw [hc2]; rfl) (.skip _ _ (.skip _ _ (.putEq (by rw [hc2]) (.refl _)) rfl) rfl))
   ·refine gs rfl rfl <| gs rfl rfl <| un1 (v := (B false)) rfl <| dnil ?_
    exact hX _ (.putEq (by rw [hc2]; rfl) (.skip _ _ (.skip _ _ (.putEq (by rw [hc2]) (.refl _)) rfl) rfl))
  refine dnil ?_
  refine Sv.cond (b := ((!decide (x_ = [46])) && (!decide (x_ = [46, 46])))) rfl (fun hc3 => ?_) (fun hc3 => ?_)
  ·replace h := ifT hc3 h
   refine ssr <| un1 rfl <| un1 rfl <| un <| a2v (v := (lstV false 1 1 [x_].length)) (h' := upd _ 1 (lstB false 1 ([x_].map eStr))) (n' := 2) rfl rfl (fun h => by cases h) ?_
   obtain ⟨r_, hr1, h⟩ := bnd h
   have hz1 : (zout && [x_].isEmpty) = true → r_ = [] := app_nil (z := zout) (ys := [x_]) hzout hr1
   refine un <| a2v rfl (s_app (xs := out) (ys := [x_]) (e := eStr) (z := zout) (b := 0) rfl rfl hzout rfl rfl (slc_lst rfl (List.length_map _).symm (map_nil_of (fun h => by cases h))) hr1) (fun h => by cases h) <| un1 rfl <| dnil <| Sv.exit ?_
   exact Sv.weak (wcn [2] rfl (.cf rfl rfl (.cf rfl rfl (.cf rfl rfl (.cons rfl (.c (lstC_ren rfl (by decide))) (.cf rfl rfl .nil))))) (.row (by decide) rfl (fr_map fun _ => rfl) .nil)) (url_tidy_j11_ok hz1 h hself hK0 hr)
  ·replace h := ifF hc3 h
   refine Sv.skip <| Sv.seq <| ssr <| un1 rfl <| un1 (v := (B (decide (x_ = [46, 46])))) rfl <| un1 rfl ?_
   refine gjoin 4 (d := 29) (v := (B ((decide (x_ = [46, 46])) && (decide (0 < (out.length : Int)))))) (fun X hX => ?_) ?_
   ·refine split2 (fun hc5 => ?_) (fun hc5 => ?_)
    ·refine gt rfl <| a1 rfl <| gt rfl <| a1 (v := (I (out.length : Int))) (s_lenL rfl (len_nil_of hzout)) <| gt rfl <| a1 (v := (B (decide (0 < (out.length : Int))))) rfl <| un1 (v := (B (decide (0 < (out.length : Int))))) rfl <| dnil ?_
     exact hX _ (.putEq (by rw [hc5]; rfl) (.skip _ _ (.skip _ _ (.skip _ _ (.putEq (by rw [hc5]) (.refl _)) rfl) rfl) rfl))
    ·refine gs rfl rfl <| gs rfl rfl <| gs rfl rfl <| un1 (v := (B false)) rfl <| dnil ?_
     exact hX _ (.putEq (by rw [hc5]; rfl) (.skip _ _ (.skip _ _ (.skip _ _ (.putEq (by rw [hc5]) (.refl _)) rfl) rfl) rfl))
   refine dnil ?_
   refine Sv.cond (b := ((decide (x_ = [46, 46])) && (decide (0 < (out.length : Int))))) rfl (fun hc6 => ?_) (fun hc6 => ?_)
   ·replace h := ifT hc6 h
    refine srg <| un1 rfl <| un1 rfl <| un1 (v := (I (out.length : Int))) (s_lenL rfl (len_nil_of hzout)) <| un1 (v := (I (wi ((out.length : Int) - 1)))) rfl ?_
    obtain ⟨r_2, hx2, h⟩ := bnd h
    refine un1 (v := (cutV zout 0 1 r_2.length out.length)) (s_cutL rfl hzout rfl rfl hx2) <| dweak (show Weak 0 _ ⟨(upd (upd (upd (upd (upd (upd (upd (upd (upd (upd (upd (upd (upd (upd (upd (upd (upd (upd (upd (upd (upd e0 0 (some (.c (.ro false 1 (l_.map eStr))))) 4 (some (I v8))) 5 (some (S x_))) 6 (some (.c (.ro false 1 (l_.map eStr))))) 7 (some (I (l_.length : Int)))) 8 (some (I v8))) 9 (some (B (decide (v8 < (l_.length : Int)))))) 10 (some (I v8))) 11 (some (.c (.rop [.str x_])))) 12 (some (S x_))) 13 (some (S x_))) 14 (some (B (!decide (x_ = [46]))))) 15 (some (B (!decide (x_ = [46]))))) 18 (some (B ((!decide (x_ = [46])) && (!decide (x_ = [46, 46])))))) 23 (some (S x_))) 24 (some (B (decide (x_ = [46, 46]))))) 25 (some (B (decide (x_ = [46, 46]))))) 29 (some (B ((decide (x_ = [46, 46])) && (decide (0 < (out.length : Int))))))) 32 (some (I (out.length : Int)))) 33 (some (I (wi ((out.length : Int) - 1))))) 34 (some (lstV zout 0 1 r_2.length))), (upd e0 0 (lstB zout 1 (r_2.map eStr))), 1⟩ from (wcn [0] rfl (.cons rfl (.c (cut_ren rfl (by decide) (cut_le hx2))) (.cf rfl rfl (.cf rfl rfl (.cf rfl rfl (.cf rfl rfl (.cf rfl rfl (.cf rfl rfl (.cf rfl rfl (.cf rfl rfl (.cf rfl rfl (.cf rfl rfl (.cf rfl rfl (.cf rfl rfl (.cf rfl rfl (.cf rfl rfl (.cf rfl rfl (.cf rfl rfl (.cf rfl rfl (.cf rfl rfl (.cf rfl rfl (.cf rfl rfl .nil))))))))))))))))))))) (.rowP (by decide) rfl (cutP hx2) (fr_map fun _ => rfl) .nil))) <| un1 rfl <| dnil ?_
    exact Sv.weak (wcn [0] rfl (.cf rfl rfl (.cf rfl rfl (.cf rfl rfl (.cf rfl rfl (.cons rfl (.c (lstC_ren rfl (by decide))) (.cf rfl rfl .nil)))))) (.row (by decide) rfl (fr_map fun _ => rfl) .nil)) (url_tidy_j12_ok (cut_nil hzout hx2) h hself hK0 hr)
   ·replace h := ifF hc6 h
    refine Sv.skip ?_
    exact Sv.weak (wcn [0] rfl (.cf rfl rfl (.cf rfl rfl (.cf rfl rfl (.cf rfl rfl (.cons rfl (.c (lstC_ren rfl (by decide))) (.cf rfl rfl .nil)))))) (.row (by decide) rfl (fr_map fun _ => rfl) .nil)) (url_tidy_j12_ok hzout h hself hK0 hr)
 ·replace h := ifF hc1 h
  refine Sv.exit ?_
  exact hK0 out zout hzout h _ (wcn [0] rfl (.cons rfl (.c (lstC_ren rfl (by decide))) .nil) (.row (by decide) rfl (fr_map fun _ => rfl) .nil))
noncomputable def url_tidy_j13 (out4 : TT) : Option TT :=
 some out4
theorem url_tidy_j13_ok {mL : Int} {out4 : TT} {zout4 : Bool} (hzout4 : zout4 = true → out4 = []) {o : TT} (h : url_tidy_j13 out4 = some o) :
  Sv Tryz.prog (GG mL) 0 a24_c3 (Ends a24.results 0 (url_tidy_post o)) ⟨(upd e0 3 (some (lstV zout4 0 1 out4.length))), (upd e0 0 (lstB zout4 1 (out4.map eStr))), 1⟩ := by
 unfold url_tidy_j13 at h
 refine ssr <| un1 rfl <| un1 rfl <| dnil <| Sv.ret ?_
 replace h := Option.some.inj h
 subst h
 exact ⟨_, .refl _, _, rfl, ⟨upd e0 0 (some (lstV zout4 0 1 out4.length)), (upd e0 0 (lstB zout4 1 (out4.map eStr))), 1⟩, (lstV zout4 0 1 out4.length), weak_canon2 [0] [0] (by decide) (by decide) nlz (.cons (by decide) .nil) (.cons rfl (.c (lstC_ren rfl (by decide))) .nil) (.row (by decide) rfl (fr_map fun _ => rfl) .nil), rfl, zout4, hzout4, rfl, rfl, rfl⟩
/-- clerestory/url.tidy -/
noncomputable def url_tidy (l_ : TT) : Option TT :=
 lim fun kk => url_tidy_l0 l_ (fun (out1 : TT) => 
   if decide ((out1.length : Int) = 0) then
    url_tidy_j13 ([[]] : TT)
   else
    url_tidy_j13 out1) kk ([] : TT) 0
theorem url_tidy_ok {mL : Int} {l_ : TT} {r : TT} (h : url_tidy l_ = some r) : ACalls Tryz.prog (GG mL) 24 [(.c (.ro false 1 (l_.map eStr)))] e0 0 (url_tidy_post r) := by
 refine acalls_of_sv hmix c24 (R := url_tidy_post r) ?_
 unfold url_tidy at h
 refine ssr <| un1 rfl <| dnil <| ssr <| un1 rfl <| dnil <| Sv.seq <| ssr <| un1 rfl <| un1 (v := (I (l_.length : Int))) (s_len (e := eStr) (xs := l_) rfl) <| un1 rfl <| dnil <| Sv.block ?_
 obtain ⟨kk, h⟩ := lim_some h
 refine Sv.weak (wcn [1000] rfl (.cf rfl rfl (.cf rfl rfl (.cf rfl rfl (.cons rfl (.c (.same rfl)) (.cf rfl rfl .nil))))) (.non (by decide) .nil)) (url_tidy_l0_ok (fun _ => rfl) h ?_ (fun s hs => hs))
 ·intro out1 zout1 hzout1 h _ hw1
  refine Sv.weak hw1 <| Sv.seq <| ssr <| un1 rfl <| un1 (v := (I (out1.length : Int))) (s_lenL rfl (len_nil_of hzout1)) <| un1 (v := (B (decide ((out1.length : Int) = 0)))) rfl <| dnil ?_
  refine Sv.cond (b := decide ((out1.length : Int) = 0)) rfl (fun hc7 => ?_) (fun hc7 => ?_)
  ·replace h := ifT hc7 h
   refine srg <| un <| a2v (v := (lstV false 1 1 ([[]] : TT).length)) (h' := upd _ 1 (lstB false 1 (([[]] : TT).map eStr))) (n' := 2) rfl rfl (fun h => by cases h) <| un1 rfl <| dnil ?_
   exact Sv.weak (wcn [1] rfl (.cons rfl (.c (lstC_ren rfl (by decide))) .nil) (.row (by decide) rfl (fr_map fun _ => rfl) .nil)) (url_tidy_j13_ok (fun h => by cases h) h)
  ·replace h := ifF hc7 h
   refine Sv.skip ?_
   exact Sv.weak (wcn [0] rfl (.cons rfl (.c (lstC_ren rfl (by decide))) .nil) (.row (by decide) rfl (fr_map fun _ => rfl) .nil)) (url_tidy_j13_ok hzout1 h)
def a6_c0 : ACode := (.seq (.seq (.region [(mV 44 6), (mV 45 9), (oP 46 (.slStr (.tmp 44) none (some (.tmp 45)))), (oP 47 (.call 20 [(.tmp 4), (.tmp 46)])), (oP 48 (.un .not (.tmp 47)))])
 (.cond (.tmp 48) (.seq (.region [(oP 49 (.build [(.str []), (.str []), (.val (.int .i64 0)), (.ro true 1 []), (.str []), (.val (.bool false)), (.str []), (.val (.bool false))] [])), ⟨none, (.store 8 (.tmp 2) (.tmp 49)), none⟩, ⟨(some 3), (.mov (kI 3)), none⟩])
 .ret) .skip))
 (.seq (.region [(mV 51 6), (mV 52 9), (oP 53 (.slStr (.tmp 51) (some (.tmp 52)) none)), (oP 54 (.call 21 [(.tmp 4), (.tmp 53)])), (mV 50 54), (oP 55 (.ext (.tmp 50) 0)), (oP 56 (.ext (.tmp 50) 1)), (mV 10 55), (mV 11 56)])
 (.seq (.region [(mV 58 10), ⟨(some 59), (.call 23 [(.tmp 58), (.const (.c (.str [47])))]), none⟩, (oP 60 (.call 22 [(.tmp 59)])), (mV 57 60), (oP 61 (.ext (.tmp 57) 0)), (oP 62 (.ext (.tmp 57) 1)), (mV 12 61), (mV 13 62)])
 (.seq (.seq (.region [(mV 63 11), (oP 64 (.un .not (.tmp 63))), (mV 65 64), ⟨(some 66), (.mov (.tmp 13)), (some (65, false))⟩, ⟨(some 67), (.un .not (.tmp 66)), (some (65, false))⟩, ⟨(some 68), (.pick (.tmp 65) (.const (.c (.val (.bool true)))) (.tmp 67)), none⟩])
 (.cond (.tmp 68) (.seq (.region [(oP 69 (.build [(.str []), (.str []), (.val (.int .i64 0)), (.ro true 1 []), (.str []), (.val (.bool false)), (.str []), (.val (.bool false))] [])), ⟨none, (.store 8 (.tmp 2) (.tmp 69)), none⟩, ⟨(some 3), (.mov (kI 3)), none⟩])
 .ret) .skip))
 (.seq (.region [(mV 70 12), (oP 71 (.call 24 [(.tmp 70)])), (oP 72 (.faddr 3 (.tmp 4))), ⟨none, (.store 1 (.tmp 72) (.tmp 71)), none⟩])
 (.seq (.region [(oP 73 (.load true 8 (.tmp 4))), ⟨none, (.store 8 (.tmp 2) (.tmp 73)), none⟩, ⟨(some 3), (.mov (kI 0)), none⟩])
 .ret))))))
def a6 : AFunc := ⟨1, [(.cell true 8 2), (.tmp 3)], (.seq (.region [⟨(some 2), (.box (.const (.agg [(.str []), (.str []), (.val (.int .i64 0)), (.ro true 1 []), (.str []), (.val (.bool false)), (.str []), (.val (.bool false))]))), none⟩, ⟨(some 3), (.mov (kI 0)), none⟩])
 (.seq (.seq (.region [(mV 14 0), (oP 15 (.lenS (.tmp 14))), ⟨(some 16), (.bin .gtr (.tmp 15) (kI 500)), none⟩])
 (.cond (.tmp 16) (.seq (.region [(oP 17 (.build [(.str []), (.str []), (.val (.int .i64 0)), (.ro true 1 []), (.str []), (.val (.bool false)), (.str []), (.val (.bool false))] [])), ⟨none, (.store 8 (.tmp 2) (.tmp 17)), none⟩, ⟨(some 3), (.mov (kI 2)), none⟩])
 .ret) .skip))
 (.seq (.region [⟨(some 4), (.box (.const (.agg [(.str []), (.str []), (.val (.int .i64 0)), (.ro true 1 []), (.str []), (.val (.bool false)), (.str []), (.val (.bool false))]))), none⟩])
 (.seq (.region [(mV 19 0), (oP 20 (.call 17 [(.tmp 19)])), (mV 18 20), (oP 21 (.ext (.tmp 18) 0)), (oP 22 (.ext (.tmp 18) 1)), (oP 23 (.ext (.tmp 18) 2)), (mV 5 21), (mV 6 22), (mV 7 23)])
 (.seq (.region [(mV 25 6), ⟨(some 26), (.call 18 [(.tmp 25), (.const (.c (.str [47, 47])))]), none⟩, (mV 24 26), (oP 27 (.ext (.tmp 24) 0)), (oP 28 (.ext (.tmp 24) 1)), (mV 6 27), (mV 8 28)])
 (.seq (.seq (.region [(mV 29 7), (oP 30 (.un .not (.tmp 29))), (mV 31 30), ⟨(some 32), (.mov (.tmp 8)), (some (31, false))⟩, ⟨(some 33), (.un .not (.tmp 32)), (some (31, false))⟩, ⟨(some 34), (.pick (.tmp 31) (.const (.c (.val (.bool true)))) (.tmp 33)), none⟩])
 (.cond (.tmp 34) (.seq (.region [(oP 35 (.build [(.str []), (.str []), (.val (.int .i64 0)), (.ro true 1 []), (.str []), (.val (.bool false)), (.str []), (.val (.bool false))] [])), ⟨none, (.store 8 (.tmp 2) (.tmp 35)), none⟩, ⟨(some 3), (.mov (kI 3)), none⟩])
 .ret) .skip))
 (.seq (.region [(mV 36 5), (oP 37 (.faddr 0 (.tmp 4))), ⟨none, (.store 1 (.tmp 37) (.tmp 36)), none⟩])
 (.seq (.region [(mV 38 6), ⟨(some 39), (.call 19 [(.tmp 38), (.const (.c (.str [47, 63, 35])))]), none⟩, (mV 9 39)])
 (.seq (.seq (.region [(mV 40 9), ⟨(some 41), (.bin .lss (.tmp 40) (kI 0)), none⟩])
 (.cond (.tmp 41) (.region [(mV 42 6), (oP 43 (.lenS (.tmp 42))), (mV 9 43)]) .skip))
 a6_c0)))))))))⟩
set_option maxRecDepth 100000 in
theorem c6 : compFunc Tryz.prog 6 = some a6 := by kernel_rfl
def url_Parse_post (r : (TJUrl × Int)) : AV → Heap → Nat → Prop := fun v h' n' => v = (.tup [(.agg [.str r.1.Scheme, .str r.1.Host, cI r.1.Port, .ro false 1 (r.1.Path.map eStr), .str r.1.Query, cB r.1.Asks, .str r.1.Fragment, cB r.1.Points]), (I r.2)]) ∧ (h' = e0) ∧ n' = 0
noncomputable def url_Parse_j1 (r_1 : (Tx × Bool)) (r_ : (Tx × Tx × Bool)) (n_ : Int) : Option (TJUrl × Int) :=
 (sub? r_1.1 0 n_).bind fun r_3 =>
 (url_place1 (⟨r_.1, [], 0, [], [], false, [], false⟩ : TJUrl) r_3).bind fun r_4 =>
 if (!r_4.1) then
  some ((⟨[], [], 0, [], [], false, [], false⟩ : TJUrl), 3)
 else
  (sub? r_1.1 n_ (r_1.1.length : Int)).bind fun r_5 =>
  (url_tail1 r_4.2 r_5).bind fun r_6 =>
  (strings_TrimPrefix r_6.1 [47]).bind fun r_7 =>
  (url_segments r_7).bind fun r_8 =>
  if ((!r_6.2.1) || (!r_8.2)) then
   some ((⟨[], [], 0, [], [], false, [], false⟩ : TJUrl), 3)
  else
   (url_tidy r_8.1).bind fun r_9 =>
   some ((⟨r_6.2.2.Scheme, r_6.2.2.Host, r_6.2.2.Port, r_9, r_6.2.2.Query, r_6.2.2.Asks, r_6.2.2.Fragment, r_6.2.2.Points⟩ : TJUrl), 0)
theorem url_Parse_j1_ok {mL : Int} {r_1 : (Tx × Bool)} {r_ : (Tx × Tx × Bool)} {n_ : Int} {o : (TJUrl × Int)} (h : url_Parse_j1 r_1 r_ n_ = some o) :
  Sv Tryz.prog (GG mL) 0 a6_c0 (Ends a6.results 0 (url_Parse_post o)) ⟨(upd (upd (upd (upd e0 2 (some (.c (.ref 0 8 0 0)))) 4 (some (.c (.ref 1 8 0 0)))) 6 (some (S r_1.1))) 9 (some (I n_))), (upd (upd e0 0 (some (.cells 8 [[.str [], .str [], cI 0, .ro true 1 [], .str [], cB false, .str [], cB false]]))) 1 (some (.cells 8 [[.str r_.1, .str [], cI 0, .ro true 1 [], .str [], cB false, .str [], cB false]]))), 2⟩ := by
 unfold url_Parse_j1 at h
 refine Sv.seq <| ssr <| un1 rfl <| un1 rfl ?_
 obtain ⟨r_3, hx1, h⟩ := bnd h
 refine un1 (v := (S r_3)) (s_slStr rfl rfl rfl hx1) <| dweak (show Weak 0 _ ⟨(upd (upd (upd (upd (upd (upd (upd e0 2 (some (.c (.ref 0 8 0 0)))) 4 (some (.c (.ref 1 8 0 0)))) 6 (some (S r_1.1))) 9 (some (I n_))) 44 (some (S r_1.1))) 45 (some (I n_))) 46 (some (S r_3))), (upd (upd (upd e0 0 (some (.cells 8 [[.str [], .str [], cI 0, .ro true 1 [], .str [], cB false, .str [], cB false]]))) 1 (some (.cells 8 [[.str r_.1, .str [], cI 0, lstC true 2 1 ([] : TT).length, .str [], cB false, .str [], cB false]]))) 2 (lstB true 1 (([] : TT).map eStr))), 3⟩ from (wcn [0, 1, 1002] rfl (.cf rfl rfl (.cf rfl rfl (.cf rfl rfl (.cf rfl rfl (.cf rfl rfl (.cons rfl (.c (.ref rfl (by decide))) (.cons rfl (.c (.ref rfl (by decide))) .nil))))))) (.non (by decide) (.box (by decide) rfl (blkAs_cells (.sm rfl (.sm rfl (.sm rfl (.sm rfl (.sm rfl (.sm rfl (.sm rfl (.sm rfl .nil))))))))) (.box (by decide) rfl (blkAs_cells (.sm rfl (.sm rfl (.sm rfl (.sm rfl (.sm rfl (.sm rfl (.sm rfl (.sm rfl .nil))))))))) .nil))))) ?_
 obtain ⟨r_4, hr4, h⟩ := bnd h
 refine un <| ac_gen (bs := [1, 2]) («as» := [(.c (.ref 1 8 0 0)), (S r_3)]) (h2 := _) (h1 := (upd (upd e0 1 (some (.cells 8 [[.str r_.1, .str [], cI 0, lstC true 2 1 ([] : TT).length, .str [], cB false, .str [], cB false]]))) 2 (lstB true 1 (([] : TT).map eStr)))) (url_place1_ok (fun _ => rfl) hr4) rfl (.cons (.c (.ref rfl (by decide))) (.cons (avAs_free rfl) .nil)) (hsub_refl _) (.cons rfl (.cons rfl (.nil _))) (fun h => by cases h) (by decide) (by decide) (.cons (.c (.ref rfl (by decide))) (.cons (avAs_free rfl) .nil)) (.row (by decide) rfl (fr_map fun _ => rfl) (.box (by decide) rfl (blkAs_cells (.sm rfl (.sm rfl (.sm rfl (.cons (lstC_ren rfl (by decide)) (.sm rfl (.sm rfl (.sm rfl (.sm rfl .nil))))))))) .nil)) ?_
 rintro _ _ _ hn ⟨z_, hz_, rfl, rfl, rfl⟩
 refine ⟨.inl rfl, (upd (upd (rem [1, 2] _) 1 (some (.cells 8 [[.str r_4.2.Scheme, .str r_4.2.Host, cI r_4.2.Port, lstC z_ 3 1 r_4.2.Path.length, .str r_4.2.Query, cB r_4.2.Asks, .str r_4.2.Fragment, cB r_4.2.Points]]))) 3 (lstB z_ 1 (r_4.2.Path.map eStr))), fun hbd => (m3_cons (m3_row rfl (fr_map fun _ => rfl)) (m3_cons (m3_box rfl (by cases z_ <;> rfl)) (m3_rem (in_cons (by decide) (in_cons (by decide) (in_nil _))) (.cons (by decide) (.cons (by decide) .nil)) hbd))), (B r_4.1), 4, (by cases z_ <;> rfl), rfl, ?_⟩
 refine un1 (v := (B (!r_4.1))) rfl <| dnil ?_
 refine Sv.cond (b := (!r_4.1)) rfl (fun hc4 => ?_) (fun hc4 => ?_)
 ·replace h := ifT hc4 h
  refine ssr <| un1 (v := (.agg [.str [], .str [], cI 0, .ro true 1 [], .str [], cB false, .str [], cB false])) rfl <| un <| a2n (h' := upd _ 0 (some (.cells 8 [[.str [], .str [], cI 0, .ro true 1 [], .str [], cB false, .str [], cB false]]))) (n' := 4) rfl rfl (fun h => by cases h) <| un1 rfl <| dnil <| Sv.ret ?_
  replace h := Option.some.inj h
  subst h
  exact ⟨_, .refl _, _, rfl, ⟨upd e0 0 (some (.tup [(.agg [.str [], .str [], cI 0, .ro false 1 (([] : TT).map eStr), .str [], cB false, .str [], cB false]), (I 3)])), e0, 0⟩, (.tup [(.agg [.str [], .str [], cI 0, .ro false 1 (([] : TT).map eStr), .str [], cB false, .str [], cB false]), (I 3)]), weak_canon [] rfl List.nodup_nil (Nat.le_refl _) nlz (.cons rfl (avAs_tup (.cons (avAs_agg (.sm rfl (.sm rfl (.sm rfl (.cons .nil (.sm rfl (.sm rfl (.sm rfl (.sm rfl .nil))))))))) (.cons (avAs_free rfl) .nil))) .nil) .nil, rfl, rfl, rfl, rfl⟩
 ·replace h := ifF hc4 h
  refine Sv.skip <| ssr <| un1 rfl <| un1 rfl ?_
  obtain ⟨r_5, hx2, h⟩ := bnd h
  refine un1 (v := (S r_5)) (s_slStr rfl rfl rfl hx2) ?_
  obtain ⟨r_6, hr5, h⟩ := bnd h
  refine un <| ac_gen (bs := [1, 3]) («as» := [(.c (.ref 1 8 0 0)), (S r_5)]) (h2 := _) (h1 := (upd (upd e0 1 (some (.cells 8 [[.str r_4.2.Scheme, .str r_4.2.Host, cI r_4.2.Port, lstC z_ 3 1 r_4.2.Path.length, .str r_4.2.Query, cB r_4.2.Asks, .str r_4.2.Fragment, cB r_4.2.Points]]))) 3 (lstB z_ 1 (r_4.2.Path.map eStr)))) (url_tail1_ok hz_ hr5) rfl (.cons (.c (.ref rfl (by decide))) (.cons (avAs_free rfl) .nil)) (hsub_refl _) (.cons rfl (.cons rfl (.nil _))) (fun h => by cases h) (by decide) (by decide) (.cons (.c (.ref rfl (by decide))) (.cons (avAs_free rfl) .nil)) (.row (by decide) rfl (fr_map fun _ => rfl) (.box (by decide) rfl (blkAs_cells (.sm rfl (.sm rfl (.sm rfl (.cons (lstC_ren rfl (by decide)) (.sm rfl (.sm rfl (.sm rfl (.sm rfl .nil))))))))) .nil)) ?_
  rintro _ _ _ hn ⟨z_1, hz_1, rfl, rfl, rfl⟩
  refine ⟨.inl rfl, (upd (upd (rem [1, 3] _) 1 (some (.cells 8 [[.str r_6.2.2.Scheme, .str r_6.2.2.Host, cI r_6.2.2.Port, lstC z_1 4 1 r_6.2.2.Path.length, .str r_6.2.2.Query, cB r_6.2.2.Asks, .str r_6.2.2.Fragment, cB r_6.2.2.Points]]))) 4 (lstB z_1 1 (r_6.2.2.Path.map eStr))), fun hbd => (m3_cons (m3_row rfl (fr_map fun _ => rfl)) (m3_cons (m3_box rfl (by cases z_1 <;> rfl)) (m3_rem (in_cons (by decide) (in_cons (by decide) (in_nil _))) (.cons (by decide) (.cons (by decide) .nil)) hbd))), (.tup [(S r_6.1), (B r_6.2.1)]), 5, (by cases z_1 <;> rfl), rfl, ?_⟩
  refine un1 rfl <| un1 (v := (S r_6.1)) rfl <| un1 (v := (B r_6.2.1)) rfl <| un1 rfl <| un1 rfl <| dnil <| ssr <| un1 rfl ?_
  obtain ⟨r_7, hr6, h⟩ := bnd h
  refine un <| ac_pure (strings_TrimPrefix_ok hr6) rfl rfl rfl ?_
  obtain ⟨r_8, hr7, h⟩ := bnd h
  refine un <| ac_gen (bs := []) («as» := [(S r_7)]) (h2 := _) (h1 := e0) (url_segments_ok hr7) rfl (.cons (avAs_free rfl) .nil) (hsub_refl _) (.nil _) (fun _ => rfl) (by decide) (by decide) (.cons (avAs_free rfl) .nil) .nil ?_
  rintro _ _ _ hn ⟨z_2, hz_2, rfl, rfl, rfl⟩
  refine ⟨.inl rfl, (upd (rem [] _) 5 (lstB z_2 1 (r_8.1.map eStr))), fun hbd => (m3_cons (m3_row rfl (fr_map fun _ => rfl)) (m3_rem (in_nil _) (.cons (by decide) .nil) hbd)), (.tup [(lstV z_2 5 1 r_8.1.length), (B r_8.2)]), 6, (by cases z_2 <;> rfl), rfl, ?_⟩
  refine un1 rfl <| un1 (v := (lstV z_2 5 1 r_8.1.length)) rfl <| un1 (v := (B r_8.2)) rfl <| un1 rfl <| un1 rfl <| dnil <| Sv.seq <| ssr <| un1 rfl <| un1 (v := (B (!r_6.2.1))) rfl <| un1 rfl ?_
  refine gjoin 3 (d := 68) (v := (B ((!r_6.2.1) || (!r_8.2)))) (fun X hX => ?_) ?_
  ·refine split2 (fun hc5 => ?_) (fun hc5 => ?_)
   ·refine gs rfl rfl <| gs rfl rfl <| un1 (v := (B true)) rfl <| dnil ?_
    exact hX _ (.putEq (by rw [hc5]; rfl) (.skip _ _ (.skip _ _ (.putEq (by rw [hc5]) (.refl _)) rfl) rfl))
   ·refine gt rfl <| a1 rfl <| gt rfl <| a1 (v := (B (!r_8.2))) rfl <| un1 (v := (B (!r_8.2))) rfl <| dnil ?_
    exact hX _ (.putEq (by rw [hc5]; rfl) (.skip _ _ (.skip _ _ (.putEq (by rw [hc5]) (.refl _)) rfl) rfl))
  refine dnil ?_
  refine Sv.cond (b := ((!r_6.2.1) || (!r_8.2))) rfl (fun hc6 => ?_) (fun hc6 => ?_)
  ·replace h := ifT hc6 h
   refine ssr <| un1 (v := (.agg [.str [], .str [], cI 0, .ro true 1 [], .str [], cB false, .str [], cB false])) rfl <| un <| a2n (h' := upd _ 0 (some (.cells 8 [[.str [], .str [], cI 0, .ro true 1 [], .str [], cB false, .str [], cB false]]))) (n' := 6) rfl rfl (fun h => by cases h) <| un1 rfl <| dnil <| Sv.ret ?_
   replace h := Option.some.inj h
   subst h
   exact ⟨_, .refl _, _, rfl, ⟨upd e0 0 (some (.tup [(.agg [.str [], .str [], cI 0, .ro false 1 (([] : TT).map eStr), .str [], cB false, .str [], cB false]), (I 3)])), e0, 0⟩, (.tup [(.agg [.str [], .str [], cI 0, .ro false 1 (([] : TT).map eStr), .str [], cB false, .str [], cB false]), (I 3)]), weak_canon [] rfl List.nodup_nil (Nat.le_refl _) nlz (.cons rfl (avAs_tup (.cons (avAs_agg (.sm rfl (.sm rfl (.sm rfl (.cons .nil (.sm rfl (.sm rfl (.sm rfl (.sm rfl .nil))))))))) (.cons (avAs_free rfl) .nil))) .nil) .nil, rfl, rfl, rfl, rfl⟩
  ·replace h := ifF hc6 h
   refine Sv.skip <| ssr <| un1 rfl ?_
   obtain ⟨r_9, hr8, h⟩ := bnd h
   refine un <| ac_gen (bs := []) («as» := [(.c (.ro false 1 (r_8.1.map eStr)))]) (h2 := (upd _ 5 none)) (h1 := e0) (url_tidy_ok hr8) rfl (.cons (.c (lstC_ro (es := List.map eStr r_8.1) rfl (List.length_map eStr).symm (map_nil_of hz_2) (gone rfl) (fr_map fun _ => rfl))) .nil) (hsub_none (hsub_refl _)) (.nil _) (fun _ => rfl) (by decide) (by decide) (.cons (avAs_free rfl) .nil) .nil ?_
   rintro _ _ _ hn ⟨z_3, hz_3, rfl, rfl, rfl⟩
   refine ⟨.inr ⟨(by cases z_3 <;> rfl), (.row (cl_map fun _ => rfl) .nil)⟩, (upd (rem [] _) 6 (lstB z_3 1 (r_9.map eStr))), fun hbd => (m3_cons (m3_row rfl (fr_map fun _ => rfl)) (m3_rem (in_nil _) (.cons (by decide) .nil) hbd)), (lstV z_3 6 1 r_9.length), 7, (by cases z_3 <;> rfl), rfl, ?_⟩
   refine un1 (v := (.c (.ref 1 8 0 3))) rfl <| un <| a2n (h' := upd _ 1 (some (.cells 8 [[.str r_6.2.2.Scheme, .str r_6.2.2.Host, cI r_6.2.2.Port, lstC z_3 6 1 r_9.length, .str r_6.2.2.Query, cB r_6.2.2.Asks, .str r_6.2.2.Fragment, cB r_6.2.2.Points]]))) (n' := 7) rfl rfl (fun h => by cases h) <| dnil <| ssr <| un1 (v := (.agg [.str r_6.2.2.Scheme, .str r_6.2.2.Host, cI r_6.2.2.Port, lstC z_3 6 1 r_9.length, .str r_6.2.2.Query, cB r_6.2.2.Asks, .str r_6.2.2.Fragment, cB r_6.2.2.Points])) rfl <| un <| a2n (h' := upd _ 0 (some (.cells 8 [[.str r_6.2.2.Scheme, .str r_6.2.2.Host, cI r_6.2.2.Port, lstC z_3 6 1 r_9.length, .str r_6.2.2.Query, cB r_6.2.2.Asks, .str r_6.2.2.Fragment, cB r_6.2.2.Points]]))) (n' := 7) rfl rfl (fun h => by cases h) <| un1 rfl <| dnil <| Sv.ret ?_
   replace h := Option.some.inj h
   subst h
   exact ⟨_, .refl _, _, rfl, ⟨upd e0 0 (some (.tup [(.agg [.str r_6.2.2.Scheme, .str r_6.2.2.Host, cI r_6.2.2.Port, .ro false 1 (r_9.map eStr), .str r_6.2.2.Query, cB r_6.2.2.Asks, .str r_6.2.2.Fragment, cB r_6.2.2.Points]), (I 0)])), e0, 0⟩, (.tup [(.agg [.str r_6.2.2.Scheme, .str r_6.2.2.Host, cI r_6.2.2.Port, .ro false 1 (r_9.map eStr), .str r_6.2.2.Query, cB r_6.2.2.Asks, .str r_6.2.2.Fragment, cB r_6.2.2.Points]), (I 0)]), weak_canon [] rfl List.nodup_nil (Nat.le_refl _) nlz (.cons rfl (avAs_tup (.cons (avAs_agg (.sm rfl (.sm rfl (.sm rfl (.cons (lstC_ro (es := List.map eStr r_9) rfl (List.length_map eStr).symm (map_nil_of hz_3) (fun b x hx => not_in (bs := []) rfl b (((.nil) : HLt _ _) b x hx)) (fr_map fun _ => rfl)) (.sm rfl (.sm rfl (.sm rfl (.sm rfl .nil))))))))) (.cons (avAs_free rfl) .nil))) .nil) .nil, rfl, rfl, rfl, rfl⟩
/-- clerestory/url.Parse -/
noncomputable def url_Parse (s_ : Tx) : Option (TJUrl × Int) :=
 if decide (500 < (s_.length : Int)) then
  some ((⟨[], [], 0, [], [], false, [], false⟩ : TJUrl), 2)
 else
  (url_scheme s_).bind fun r_ =>
  (strings_CutPrefix r_.2.1 [47, 47]).bind fun r_1 =>
  if ((!r_.2.2) || (!r_1.2)) then
   some ((⟨[], [], 0, [], [], false, [], false⟩ : TJUrl), 3)
  else
   (strings_IndexAny r_1.1 [47, 63, 35]).bind fun r_2 =>
   if decide (r_2 < 0) then
    url_Parse_j1 r_1 r_ (r_1.1.length : Int)
   else
    url_Parse_j1 r_1 r_ r_2
theorem url_Parse_ok {mL : Int} {s_ : Tx} {r : (TJUrl × Int)} (h : url_Parse s_ = some r) : CPure Tryz.prog (GG mL) 6 [(S s_)] (.tup [(.agg [.str r.1.Scheme, .str r.1.Host, cI r.1.Port, .ro false 1 (r.1.Path.map eStr), .str r.1.Query, cB r.1.Asks, .str r.1.Fragment, cB r.1.Points]), (I r.2)]) := by
 refine acalls_of_sv hmix c6 (R := url_Parse_post r) ?_
 unfold url_Parse at h
 refine ssr <| un <| a2v (v := (.c (.ref 0 8 0 0))) (h' := upd _ 0 (some (.cells 8 [[.str [], .str [], cI 0, .ro true 1 [], .str [], cB false, .str [], cB false]]))) (n' := 1) rfl rfl (fun h => by cases h) <| un1 rfl <| dnil <| Sv.seq <| ssr <| un1 rfl <| un1 (v := (I (s_.length : Int))) rfl <| un1 (v := (B (decide (500 < (s_.length : Int))))) rfl <| dnil ?_
 refine Sv.cond (b := decide (500 < (s_.length : Int))) rfl (fun hc1 => ?_) (fun hc1 => ?_)
 ·replace h := ifT hc1 h
  refine ssr <| un1 (v := (.agg [.str [], .str [], cI 0, .ro true 1 [], .str [], cB false, .str [], cB false])) rfl <| un <| a2n (h' := upd _ 0 (some (.cells 8 [[.str [], .str [], cI 0, .ro true 1 [], .str [], cB false, .str [], cB false]]))) (n' := 1) rfl rfl (fun h => by cases h) <| un1 rfl <| dnil <| Sv.ret ?_
  replace h := Option.some.inj h
  subst h
  exact ⟨_, .refl _, _, rfl, ⟨upd e0 0 (some (.tup [(.agg [.str [], .str [], cI 0, .ro false 1 (([] : TT).map eStr), .str [], cB false, .str [], cB false]), (I 2)])), e0, 0⟩, (.tup [(.agg [.str [], .str [], cI 0, .ro false 1 (([] : TT).map eStr), .str [], cB false, .str [], cB false]), (I 2)]), weak_canon [] rfl List.nodup_nil (Nat.le_refl _) nlz (.cons rfl (avAs_tup (.cons (avAs_agg (.sm rfl (.sm rfl (.sm rfl (.cons .nil (.sm rfl (.sm rfl (.sm rfl (.sm rfl .nil))))))))) (.cons (avAs_free rfl) .nil))) .nil) .nil, rfl, rfl, rfl, rfl⟩
 ·replace h := ifF hc1 h
  refine Sv.skip <| ssr <| un <| a2v (v := (.c (.ref 1 8 0 0))) (h' := upd _ 1 (some (.cells 8 [[.str [], .str [], cI 0, .ro true 1 [], .str [], cB false, .str [], cB false]]))) (n' := 2) rfl rfl (fun h => by cases h) <| dnil <| ssr <| un1 rfl ?_
  obtain ⟨r_, hr1, h⟩ := bnd h
  refine un <| ac_pure (url_scheme_ok hr1) rfl rfl rfl <| un1 rfl <| un1 (v := (S r_.1)) rfl <| un1 (v := (S r_.2.1)) rfl <| un1 (v := (B r_.2.2)) rfl <| un1 rfl <| un1 rfl <| un1 rfl <| dnil <| ssr <| un1 rfl ?_
  obtain ⟨r_1, hr2, h⟩ := bnd h
  refine un <| ac_pure (strings_CutPrefix_ok hr2) rfl rfl rfl <| un1 rfl <| un1 (v := (S r_1.1)) rfl <| un1 (v := (B r_1.2)) rfl <| un1 rfl <| un1 rfl <| dnil <| Sv.seq <| ssr <| un1 rfl <| un1 (v := (B (!r_.2.2))) rfl <| un1 rfl ?_
  refine gjoin 3 (d := 34) (v := (B ((!r_.2.2) || (!r_1.2)))) (fun X hX => ?_) ?_
  ·refine split2 (fun hc2 => ?_) (fun hc2 => ?_)
   ·refine gs rfl rfl <| gs rfl rfl <| un1 (v := (B true)) rfl <| dnil ?_
    exact hX _ (.putEq (by rw [hc2]; rfl) (.skip _ _ (.skip _ _ (.putEq (by rw [hc2]) (.refl _)) rfl) rfl))
   ·refine gt rfl <| a1 rfl <| gt rfl <| a1 (v := (B (!r_1.2))) rfl <| un1 (v := (B (!r_1.2))) rfl <| dnil ?_
    exact hX _ (.putEq (by rw [hc2]; rfl) (.skip _ _ (.skip _ _ (.putEq (by rw [hc2]) (.refl _)) rfl) rfl))
  refine dnil ?_
  refine Sv.cond (b := ((!r_.2.2) || (!r_1.2))) rfl (fun hc3 => ?_) (fun hc3 => ?_)
  ·replace h := ifT hc3 h
   refine ssr <| un1 (v := (.agg [.str [], .str [], cI 0, .ro true 1 [], .str [], cB false, .str [], cB false])) rfl <| un <| a2n (h' := upd _ 0 (some (.cells 8 [[.str [], .str [], cI 0, .ro true 1 [], .str [], cB false, .str [], cB false]]))) (n' := 2) rfl rfl (fun h => by cases h) <| un1 rfl <| dnil <| Sv.ret ?_
   replace h := Option.some.inj h
   subst h
   exact ⟨_, .refl _, _, rfl, ⟨upd e0 0 (some (.tup [(.agg [.str [], .str [], cI 0, .ro false 1 (([] : TT).map eStr), .str [], cB false, .str [], cB false]), (I 3)])), e0, 0⟩, (.tup [(.agg [.str [], .str [], cI 0, .ro false 1 (([] : TT).map eStr), .str [], cB false, .str [], cB false]), (I 3)]), weak_canon [] rfl List.nodup_nil (Nat.le_refl _) nlz (.cons rfl (avAs_tup (.cons (avAs_agg (.sm rfl (.sm rfl (.sm rfl (.cons .nil (.sm rfl (.sm rfl (.sm rfl (.sm rfl .nil))))))))) (.cons (avAs_free rfl) .nil))) .nil) .nil, rfl, rfl, rfl, rfl⟩
  ·replace h := ifF hc3 h
   refine Sv.skip <| ssr <| un1 rfl <| un1 (v := (.c (.ref 1 8 0 0))) rfl <| un <| a2n (h' := upd _ 1 (some (.cells 8 [[.str r_.1, .str [], cI 0, .ro true 1 [], .str [], cB false, .str [], cB false]]))) (n' := 2) rfl rfl (fun h => by cases h) <| dnil <| ssr <| un1 rfl ?_
   obtain ⟨r_2, hr3, h⟩ := bnd h
   refine un <| ac_pure (strings_IndexAny_ok hr3) rfl rfl rfl <| un1 rfl <| dnil <| Sv.seq <| ssr <| un1 rfl <| un1 (v := (B (decide (r_2 < 0)))) rfl <| dnil ?_
   refine Sv.cond (b := decide (r_2 < 0)) rfl (fun hc7 => ?_) (fun hc7 => ?_)
   ·replace h := ifT hc7 h
    refine srg <| un1 rfl <| un1 (v := (I (r_1.1.length : Int))) rfl <| un1 rfl <| dnil ?_
    exact Sv.weak (wcn [0, 1] rfl (.cf rfl rfl (.cf rfl rfl (.cons rfl (.c (.ref rfl (by decide))) (.cons rfl (.c (.ref rfl (by decide))) .nil)))) (.box (by decide) rfl (blkAs_cells (.sm rfl (.sm rfl (.sm rfl (.sm rfl (.sm rfl (.sm rfl (.sm rfl (.sm rfl .nil))))))))) (.box (by decide) rfl (blkAs_cells (.sm rfl (.sm rfl (.sm rfl (.sm rfl (.sm rfl (.sm rfl (.sm rfl (.sm rfl .nil))))))))) .nil))) (url_Parse_j1_ok h)
   ·replace h := ifF hc7 h
    refine Sv.skip ?_
    exact Sv.weak (wcn [0, 1] rfl (.cf rfl rfl (.cf rfl rfl (.cons rfl (.c (.ref rfl (by decide))) (.cons rfl (.c (.ref rfl (by decide))) .nil)))) (.box (by decide) rfl (blkAs_cells (.sm rfl (.sm rfl (.sm rfl (.sm rfl (.sm rfl (.sm rfl (.sm rfl (.sm rfl .nil))))))))) (.box (by decide) rfl (blkAs_cells (.sm rfl (.sm rfl (.sm rfl (.sm rfl (.sm rfl (.sm rfl (.sm rfl (.sm rfl .nil))))))))) .nil))) (url_Parse_j1_ok h)
def a67_c0 : ACode := (.seq (.region [(oP 14 (.bin .lss (.tmp 13) (.tmp 12)))])
 (.seq (.cond (.tmp 14) .skip (.exit 0))
 (.seq (.block 1 (.seq (.region [(mV 15 13), (mV 5 15)])
 (.seq (.drawn (.fin [((mV 16 0), (0, 0)), ((mV 17 5), (0, 1)), ((oP 18 (.iaddr 1 (.tmp 16) (.tmp 17))), (0, 2)), ((oP 19 (.load false 1 (.tmp 18))), (0, 3)), ((mV 20 1), (0, 4)), ((mV 21 5), (0, 5)), ((oP 22 (.iaddr 1 (.tmp 20) (.tmp 21))), (0, 6)), ((oP 23 (.load false 1 (.tmp 22))), (0, 7)), ((oP 24 (.bin .neq (.tmp 19) (.tmp 23))), (0, 8))]))
 (.cond (.tmp 24) (.seq (.region [⟨(some 4), (.mov (.const (.c (.val (.bool false))))), none⟩])
 .ret) .skip))))
 (.region [⟨(some 25), (.bin .add (.tmp 13) (kI 1)), none⟩, (mV 13 25)]))))
def a67 : AFunc := ⟨2, [(.tmp 4)], (.seq (.region [⟨(some 4), (.mov (.const (.c (.val (.bool false))))), none⟩])
 (.seq (.seq (.region [(mV 6 0), (oP 7 (.len (.tmp 6))), (mV 8 1), (oP 9 (.len (.tmp 8))), (oP 10 (.bin .neq (.tmp 7) (.tmp 9)))])
 (.cond (.tmp 10) (.seq (.region [⟨(some 4), (.mov (.const (.c (.val (.bool false))))), none⟩])
 .ret) .skip))
 (.seq (.seq (.region [(mV 11 0), (oP 12 (.len (.tmp 11))), ⟨(some 13), (.mov (kI 0)), none⟩])
 (.block 0 (.loop a67_c0)))
 (.seq (.region [⟨(some 4), (.mov (.const (.c (.val (.bool true))))), none⟩])
 .ret))))⟩
set_option maxRecDepth 100000 in
theorem c67 : compFunc Tryz.prog 67 = some a67 := by kernel_rfl
def slices_Equal_string_post (r : Bool) : AV → Heap → Nat → Prop := fun v h' n' => v = (B r) ∧ (h' = e0) ∧ n' = 0
noncomputable def slices_Equal_string_l0 (s1 : TT) (s2 : TT) (K0_ : Unit → Option Bool) : Nat → Int → Option Bool
 | 0, _ => none
 | k + 1, v13 =>
  if decide (v13 < (s1.length : Int)) then
   (at? s1 v13).bind fun x_ =>
   (at? s2 v13).bind fun x_1 =>
   if (!decide (x_ = x_1)) then
    some false
   else
    (slices_Equal_string_l0 s1 s2 K0_ k) (wi (v13 + 1))
  else
   K0_ ()
theorem slices_Equal_string_l0_ok {mL : Int} {Q : AExit → St → Prop} {s1 : TT} {s2 : TT} {K0_ : Unit → Option Bool} {k : Nat} {v13 : Int} {o : Bool} (h : slices_Equal_string_l0 s1 s2 K0_ k v13 = some o)
  (hK0 : ∀ (_ : Unit), K0_ () = some o → ∀ s, Weak 0 s ⟨e0, e0, 0⟩ → Q (.exit 0) s)
  (hr : ∀ s, Ends a67.results 0 (slices_Equal_string_post o) .ret s → Q .ret s) :
  Sv Tryz.prog (GG mL) 0 (.loop a67_c0) Q ⟨(upd (upd (upd (upd e0 0 (some (.c (.ro false 1 (s1.map eStr))))) 1 (some (.c (.ro false 1 (s2.map eStr))))) 12 (some (I (s1.length : Int)))) 13 (some (I v13))), e0, 0⟩ := by
 refine Sv.loop (I := fun k s => ∃ (v13 : Int), slices_Equal_string_l0 s1 s2 K0_ k v13 = some o ∧ s = ⟨(upd (upd (upd (upd e0 0 (some (.c (.ro false 1 (s1.map eStr))))) 1 (some (.c (.ro false 1 (s2.map eStr))))) 12 (some (I (s1.length : Int)))) 13 (some (I v13))), e0, 0⟩) (fun k s hI => ?_) ⟨v13, h, rfl⟩
 clear h
 clear v13
 obtain ⟨v13, h, rfl⟩ := hI
 cases k with
 | zero => cases h
 | succ k =>
 rw [slices_Equal_string_l0] at h
 have hself : ∀ (v13 : Int), (slices_Equal_string_l0 s1 s2 K0_ k) v13 = some o → ∀ s, Weak 0 s ⟨(upd (upd (upd (upd e0 0 (some (.c (.ro false 1 (s1.map eStr))))) 1 (some (.c (.ro false 1 (s2.map eStr))))) 12 (some (I (s1.length : Int)))) 13 (some (I v13))), e0, 0⟩ → (AThen (fun s' => ∃ s'' k', Weak 0 s' s'' ∧ k' < k + 1 ∧ (fun k s => ∃ (v13 : Int), slices_Equal_string_l0 s1 s2 K0_ k v13 = some o ∧ s = ⟨(upd (upd (upd (upd e0 0 (some (.c (.ro false 1 (s1.map eStr))))) 1 (some (.c (.ro false 1 (s2.map eStr))))) 12 (some (I (s1.length : Int)))) 13 (some (I v13))), e0, 0⟩) k' s'') Q) .normal s := fun v13 h s hw => ⟨_, k, hw, Nat.lt_succ_self k, v13, h, rfl⟩
 refine ssr <| un1 (v := (B (decide (v13 < (s1.length : Int))))) rfl <| dnil <| Sv.seq ?_
 refine Sv.cond (b := decide (v13 < (s1.length : Int))) rfl (fun hc2 => ?_) (fun hc2 => ?_)
 ·replace h := ifT hc2 h
  refine Sv.skip <| Sv.seq <| Sv.block <| ssr <| un1 rfl <| un1 rfl <| dnil <| Sv.seq <| Sv.drawn <| un1 rfl <| un1 rfl ?_
  obtain ⟨x_, hx1, h⟩ := bnd h
  refine un1 (v := (.c (.rop [.str x_]))) (s_iaddr (e := eStr) (xs := s1) rfl rfl hx1) <| un1 (v := (S x_)) rfl <| un1 rfl <| un1 rfl ?_
  obtain ⟨x_1, hx2, h⟩ := bnd h
  refine un1 (v := (.c (.rop [.str x_1]))) (s_iaddr (e := eStr) (xs := s2) rfl rfl hx2) <| un1 (v := (S x_1)) rfl <| un1 (v := (B (!decide (x_ = x_1)))) rfl <| dnil ?_
  refine Sv.cond (b := (!decide (x_ = x_1))) rfl (fun hc3 => ?_) (fun hc3 => ?_)
  ·replace h := ifT hc3 h
   refine ssr <| un1 rfl <| dnil <| Sv.ret ?_
   replace h := Option.some.inj h
   subst h
   exact hr _ ⟨_, .refl _, _, rfl, ⟨upd e0 0 (some (B false)), e0, 0⟩, (B false), weak_canon [] rfl List.nodup_nil (Nat.le_refl _) nlz (.cf rfl rfl .nil) .nil, rfl, rfl, rfl, rfl⟩
  ·replace h := ifF hc3 h
   refine Sv.skip <| srg <| un1 (v := (I (wi (v13 + 1)))) rfl <| un1 rfl <| dnil ?_
   exact hself (wi (v13 + 1)) h _ (wcn [] rfl (.cf rfl rfl (.cf rfl rfl (.cf rfl rfl (.cf rfl rfl .nil)))) .nil)
 ·replace h := ifF hc2 h
  refine Sv.exit ?_
  exact hK0 () h _ (wcn [] rfl .nil .nil)
/-- slices.Equal(()string,string) -/
noncomputable def slices_Equal_string (s1 : TT) (s2 : TT) : Option Bool :=
 if (!decide ((s1.length : Int) = (s2.length : Int))) then
  some false
 else
  lim fun kk => slices_Equal_string_l0 s1 s2 (fun (_ : Unit) => 
    some true) kk 0
theorem slices_Equal_string_ok {mL : Int} {s1 : TT} {s2 : TT} {r : Bool} (h : slices_Equal_string s1 s2 = some r) : CPure Tryz.prog (GG mL) 67 [(.c (.ro false 1 (s1.map eStr))), (.c (.ro false 1 (s2.map eStr)))] (B r) := by
 refine acalls_of_sv hmix c67 (R := slices_Equal_string_post r) ?_
 unfold slices_Equal_string at h
 refine ssr <| un1 rfl <| dnil <| Sv.seq <| ssr <| un1 rfl <| un1 (v := (I (s1.length : Int))) (s_len (e := eStr) (xs := s1) rfl) <| un1 rfl <| un1 (v := (I (s2.length : Int))) (s_len (e := eStr) (xs := s2) rfl) <| un1 (v := (B (!decide ((s1.length : Int) = (s2.length : Int))))) rfl <| dnil ?_
 refine Sv.cond (b := (!decide ((s1.length : Int) = (s2.length : Int)))) rfl (fun hc1 => ?_) (fun hc1 => ?_)
 ·replace h := ifT hc1 h
  refine ssr <| un1 rfl <| dnil <| Sv.ret ?_
  replace h := Option.some.inj h
  subst h
  exact ⟨_, .refl _, _, rfl, ⟨upd e0 0 (some (B false)), e0, 0⟩, (B false), weak_canon [] rfl List.nodup_nil (Nat.le_refl _) nlz (.cf rfl rfl .nil) .nil, rfl, rfl, rfl, rfl⟩
 ·replace h := ifF hc1 h
  refine Sv.skip <| Sv.seq <| ssr <| un1 rfl <| un1 (v := (I (s1.length : Int))) (s_len (e := eStr) (xs := s1) rfl) <| un1 rfl <| dnil <| Sv.block ?_
  obtain ⟨kk, h⟩ := lim_some h
  refine Sv.weak (wcn [] rfl (.cf rfl rfl (.cf rfl rfl (.cf rfl rfl (.cf rfl rfl .nil)))) .nil) (slices_Equal_string_l0_ok h ?_ (fun s hs => hs))
  ·intro _ h _ hw1
   refine Sv.weak hw1 <| ssr <| un1 rfl <| dnil <| Sv.ret ?_
   replace h := Option.some.inj h
   subst h
   exact ⟨_, .refl _, _, rfl, ⟨upd e0 0 (some (B true)), e0, 0⟩, (B true), weak_canon [] rfl List.nodup_nil (Nat.le_refl _) nlz (.cf rfl rfl .nil) .nil, rfl, rfl, rfl, rfl⟩
def a38_c0 : ACode := .ret
def a38 : AFunc := ⟨2, [(.tmp 4)], (.seq (.region [(oP 2 (.box (.tmp 0))), (oP 3 (.box (.tmp 1))), ⟨(some 4), (.mov (.const (.c (.val (.bool false))))), none⟩])
 (.seq (.region [(oP 5 (.faddr 0 (.tmp 2))), (oP 6 (.load false 1 (.tmp 5))), (oP 7 (.faddr 0 (.tmp 3))), (oP 8 (.load false 1 (.tmp 7))), (oP 9 (.bin .eql (.tmp 6) (.tmp 8))), (mV 10 9), ⟨(some 11), (.faddr 1 (.tmp 2)), (some (10, true))⟩, ⟨(some 12), (.load false 1 (.tmp 11)), (some (10, true))⟩, ⟨(some 13), (.faddr 1 (.tmp 3)), (some (10, true))⟩, ⟨(some 14), (.load false 1 (.tmp 13)), (some (10, true))⟩, ⟨(some 15), (.bin .eql (.tmp 12) (.tmp 14)), (some (10, true))⟩, ⟨(some 16), (.pick (.tmp 10) (.tmp 15) (.const (.c (.val (.bool false))))), none⟩, (mV 17 16), ⟨(some 18), (.faddr 2 (.tmp 2)), (some (17, true))⟩, ⟨(some 19), (.load false 1 (.tmp 18)), (some (17, true))⟩, ⟨(some 20), (.faddr 2 (.tmp 3)), (some (17, true))⟩, ⟨(some 21), (.load false 1 (.tmp 20)), (some (17, true))⟩, ⟨(some 22), (.bin .eql (.tmp 19) (.tmp 21)), (some (17, true))⟩, ⟨(some 23), (.pick (.tmp 17) (.tmp 22) (.const (.c (.val (.bool false))))), none⟩, (mV 24 23), ⟨(some 25), (.faddr 3 (.tmp 2)), (some (24, true))⟩, ⟨(some 26), (.load false 1 (.tmp 25)), (some (24, true))⟩, ⟨(some 27), (.faddr 3 (.tmp 3)), (some (24, true))⟩, ⟨(some 28), (.load false 1 (.tmp 27)), (some (24, true))⟩, ⟨(some 29), (.call 67 [(.tmp 26), (.tmp 28)]), (some (24, true))⟩, ⟨(some 30), (.pick (.tmp 24) (.tmp 29) (.const (.c (.val (.bool false))))), none⟩, (mV 31 30), ⟨(some 32), (.faddr 4 (.tmp 2)), (some (31, true))⟩, ⟨(some 33), (.load false 1 (.tmp 32)), (some (31, true))⟩, ⟨(some 34), (.faddr 4 (.tmp 3)), (some (31, true))⟩, ⟨(some 35), (.load false 1 (.tmp 34)), (some (31, true))⟩, ⟨(some 36), (.bin .eql (.tmp 33) (.tmp 35)), (some (31, true))⟩, ⟨(some 37), (.pick (.tmp 31) (.tmp 36) (.const (.c (.val (.bool false))))), none⟩, (mV 38 37), ⟨(some 39), (.faddr 5 (.tmp 2)), (some (38, true))⟩, ⟨(some 40), (.load false 1 (.tmp 39)), (some (38, true))⟩, ⟨(some 41), (.faddr 5 (.tmp 3)), (some (38, true))⟩, ⟨(some 42), (.load false 1 (.tmp 41)), (some (38, true))⟩, ⟨(some 43), (.eqs false false [.b] (.tmp 40) (.tmp 42)), (some (38, true))⟩, ⟨(some 44), (.pick (.tmp 38) (.tmp 43) (.const (.c (.val (.bool false))))), none⟩, (mV 45 44), ⟨(some 46), (.faddr 6 (.tmp 2)), (some (45, true))⟩, ⟨(some 47), (.load false 1 (.tmp 46)), (some (45, true))⟩, ⟨(some 48), (.faddr 6 (.tmp 3)), (some (45, true))⟩, ⟨(some 49), (.load false 1 (.tmp 48)), (some (45, true))⟩, ⟨(some 50), (.bin .eql (.tmp 47) (.tmp 49)), (some (45, true))⟩, ⟨(some 51), (.pick (.tmp 45) (.tmp 50) (.const (.c (.val (.bool false))))), none⟩, (mV 52 51), ⟨(some 53), (.faddr 7 (.tmp 2)), (some (52, true))⟩, ⟨(some 54), (.load false 1 (.tmp 53)), (some (52, true))⟩, ⟨(some 55), (.faddr 7 (.tmp 3)), (some (52, true))⟩, ⟨(some 56), (.load false 1 (.tmp 55)), (some (52, true))⟩, ⟨(some 57), (.eqs false false [.b] (.tmp 54) (.tmp 56)), (some (52, true))⟩, ⟨(some 58), (.pick (.tmp 52) (.tmp 57) (.const (.c (.val (.bool false))))), none⟩, (mV 4 58)])
 a38_c0))⟩
set_option maxRecDepth 100000 in
theorem c38 : compFunc Tryz.prog 38 = some a38 := by kernel_rfl
def url_same_post (r : Bool) : AV → Heap → Nat → Prop := fun v h' n' => v = (B r) ∧ (h' = e0) ∧ n' = 0
noncomputable def url_same_j1 (v4 : Bool) : Option Bool :=
 some v4
theorem url_same_j1_ok {mL : Int} {v4 : Bool} {o : Bool} (h : url_same_j1 v4 = some o) :
  Sv Tryz.prog (GG mL) 0 a38_c0 (Ends a38.results 0 (url_same_post o)) ⟨(upd e0 4 (some (B v4))), e0, 0⟩ := by
 unfold url_same_j1 at h
 refine Sv.ret ?_
 replace h := Option.some.inj h
 subst h
 exact ⟨_, .refl _, _, rfl, ⟨upd e0 0 (some (B v4)), e0, 0⟩, (B v4), weak_canon [] rfl List.nodup_nil (Nat.le_refl _) nlz (.cf rfl rfl .nil) .nil, rfl, rfl, rfl, rfl⟩
/-- clerestory/url.same -/
noncomputable def url_same (a_ : TJUrl) (b_ : TJUrl) : Option Bool :=
 if (((decide (a_.Scheme = b_.Scheme)) && (decide (a_.Host = b_.Host))) && (decide (a_.Port = b_.Port))) then
  (slices_Equal_string a_.Path b_.Path).bind fun r_ =>
  url_same_j1 ((((r_ && (decide (a_.Query = b_.Query))) && ((a_.Asks == b_.Asks) && true)) && (decide (a_.Fragment = b_.Fragment))) && ((a_.Points == b_.Points) && true))
 else
  url_same_j1 false
theorem url_same_ok {mL : Int} {a_ : TJUrl} {b_ : TJUrl} {r : Bool} (h : url_same a_ b_ = some r) : CPure Tryz.prog (GG mL) 38 [(.agg [.str a_.Scheme, .str a_.Host, cI a_.Port, .ro false 1 (a_.Path.map eStr), .str a_.Query, cB a_.Asks, .str a_.Fragment, cB a_.Points]), (.agg [.str b_.Scheme, .str b_.Host, cI b_.Port, .ro false 1 (b_.Path.map eStr), .str b_.Query, cB b_.Asks, .str b_.Fragment, cB b_.Points])] (B r) := by
 refine acalls_of_sv hmix c38 (R := url_same_post r) ?_
 unfold url_same at h
 refine ssr <| un <| a2v (v := (.c (.ref 0 8 0 0))) (h' := upd _ 0 (some (.cells 8 [[.str a_.Scheme, .str a_.Host, cI a_.Port, .ro false 1 (a_.Path.map eStr), .str a_.Query, cB a_.Asks, .str a_.Fragment, cB a_.Points]]))) (n' := 1) rfl rfl (fun h => by cases h) <| un <| a2v (v := (.c (.ref 1 8 0 0))) (h' := upd _ 1 (some (.cells 8 [[.str b_.Scheme, .str b_.Host, cI b_.Port, .ro false 1 (b_.Path.map eStr), .str b_.Query, cB b_.Asks, .str b_.Fragment, cB b_.Points]]))) (n' := 2) rfl rfl (fun h => by cases h) <| un1 rfl <| dnil <| ssr <| un1 (v := (.c (.ref 0 8 0 0))) rfl <| un1 (v := (S a_.Scheme)) rfl <| un1 (v := (.c (.ref 1 8 0 0))) rfl <| un1 (v := (S b_.Scheme)) rfl <| un1 (v := (B (decide (a_.Scheme = b_.Scheme)))) rfl <| un1 rfl ?_
 refine gjoin 6 (d := 16) (v := (B ((decide (a_.Scheme = b_.Scheme)) && (decide (a_.Host = b_.Host))))) (fun X hX => ?_) ?_
 ·refine split2 (fun hc1 => ?_) (fun hc1 => ?_)
  ·refine gt rfl <| a1 (v := (.c (.ref 0 8 0 1))) rfl <| gt rfl <| a1 (v := (S a_.Host)) rfl <| gt rfl <| a1 (v := (.c (.ref 1 8 0 1))) rfl <| gt rfl <| a1 (v := (S b_.Host)) rfl <| gt rfl <| a1 (v := (B (decide (a_.Host = b_.Host)))) rfl <| un1 (v := (B (decide (a_.Host = b_.Host)))) rfl <| dnil ?_
   exact hX _ (.putEq (by rw [hc1]; rfl) (.skip _ _ (.skip _ _ (.skip _ _ (.skip _ _ (.skip _ _ (.putEq (by rw [hc1]) (.refl _)) rfl) rfl) rfl) rfl) rfl))
  ·refine gs rfl rfl <| gs rfl rfl <| gs rfl rfl <| gs rfl rfl <| gs rfl rfl <| un1 (v := (B false)) rfl <| dnil ?_
   exact hX _ (.putEq (by rw [hc1]; rfl) (.skip _ _ (.skip _ _ (.skip _ _ (.skip _ _ (.skip _ _ (.putEq (by rw [hc1]) (.refl _)) rfl) rfl) rfl) rfl) rfl))
 refine un1 rfl ?_
 refine gjoin 6 (d := 23) (v := (B (((decide (a_.Scheme = b_.Scheme)) && (decide (a_.Host = b_.Host))) && (decide (a_.Port = b_.Port))))) (fun X hX => ?_) ?_
 ·refine split2 (fun hc2 => ?_) (fun hc2 => ?_)
  ·refine gt rfl <| a1 (v := (.c (.ref 0 8 0 2))) rfl <| gt rfl <| a1 (v := (I a_.Port)) rfl <| gt rfl <| a1 (v := (.c (.ref 1 8 0 2))) rfl <| gt rfl <| a1 (v := (I b_.Port)) rfl <| gt rfl <| a1 (v := (B (decide (a_.Port = b_.Port)))) rfl <| un1 (v := (B (decide (a_.Port = b_.Port)))) rfl <| dnil ?_
   exact hX _ (.putEq (by rw [hc2]; rfl) (.skip _ _ (.skip _ _ (.skip _ _ (.skip _ _ (.skip _ _ (.putEq (by rw [hc2]) (.refl _)) rfl) rfl) rfl) rfl) rfl))
  ·refine gs rfl rfl <| gs rfl rfl <| gs rfl rfl <| gs rfl rfl <| gs rfl rfl <| un1 (v := (B false)) rfl <| dnil ?_
   exact hX _ (.putEq (by rw [hc2]; rfl) (.skip _ _ (.skip _ _ (.skip _ _ (.skip _ _ (.skip _ _ (.putEq (by rw [hc2]) (.refl _)) rfl) rfl) rfl) rfl) rfl))
 refine un1 rfl ?_
 refine split2 (fun hc3 => ?_) (fun hc3 => ?_)
 ·replace h := ifT hc3 h
  refine gt rfl <| a1 (v := (.c (.ref 0 8 0 3))) rfl <| gt rfl <| a1 (v := (.c (.ro false 1 (a_.Path.map eStr)))) rfl <| gt rfl <| a1 (v := (.c (.ref 1 8 0 3))) rfl <| gt rfl <| a1 (v := (.c (.ro false 1 (b_.Path.map eStr)))) rfl ?_
  obtain ⟨r_, hr1, h⟩ := bnd h
  refine gt rfl <| ac_pure (slices_Equal_string_ok hr1) rfl rfl rfl <| un1 (v := (B r_)) rfl <| un1 rfl ?_
  refine gjoin 6 (d := 37) (v := (B (r_ && (decide (a_.Query = b_.Query))))) (fun X hX => ?_) ?_
  ·refine split2 (fun hc4 => ?_) (fun hc4 => ?_)
   ·refine gt rfl <| a1 (v := (.c (.ref 0 8 0 4))) rfl <| gt rfl <| a1 (v := (S a_.Query)) rfl <| gt rfl <| a1 (v := (.c (.ref 1 8 0 4))) rfl <| gt rfl <| a1 (v := (S b_.Query)) rfl <| gt rfl <| a1 (v := (B (decide (a_.Query = b_.Query)))) rfl <| un1 (v := (B (decide (a_.Query = b_.Query)))) rfl <| dnil ?_
    exact hX _ (.putEq (by rw [hc4]; rfl) (.skip _ _ (.skip _ _ (.skip _ _ (.skip _ _ (.skip _ _ (.putEq (by rw [hc4]) (.refl _)) rfl) rfl) rfl) rfl) rfl))
   ·refine gs rfl rfl <| gs rfl rfl <| gs rfl rfl <| gs rfl rfl <| gs rfl rfl <| un1 (v := (B false)) rfl <| dnil ?_
    exact hX _ (.putEq (by rw [hc4]; rfl) (.skip _ _ (.skip _ _ (.skip _ _ (.skip _ _ (.skip _ _ (.putEq (by rw [hc4]) (.refl _)) rfl) rfl) rfl) rfl) rfl))
  refine un1 rfl ?_
  refine gjoin 6 (d := 44) (v := (B ((r_ && (decide (a_.Query = b_.Query))) && ((a_.Asks == b_.Asks) && true)))) (fun X hX => ?_) ?_
  ·refine split2 (fun hc5 => ?_) (fun hc5 => ?_)
   ·refine gt rfl <| a1 (v := (.c (.ref 0 8 0 5))) rfl <| gt rfl <| a1 (v := (B a_.Asks)) rfl <| gt rfl <| a1 (v := (.c (.ref 1 8 0 5))) rfl <| gt rfl <| a1 (v := (B b_.Asks)) rfl <| gt rfl <| a1 (v := (B ((a_.Asks == b_.Asks) && true))) rfl <| un1 (v := (B ((a_.Asks == b_.Asks) && true))) rfl <| dnil ?_
    exact hX _ (.putEq (by rw [hc5]; rfl) (.skip _ _ (.skip _ _ (.skip _ _ (.skip _ _ (.skip _ _ (.putEq (by rw [hc5]) (.refl _)) rfl) rfl) rfl) rfl) rfl))
   ·refine gs rfl rfl <| gs rfl rfl <| gs rfl rfl <| gs rfl rfl <| gs rfl rfl <| un1 (v := (B false)) rfl <| dnil ?_
    exact hX _ (.putEq (by rw [hc5]; rfl) (.skip _ _ (.skip _ _ (.skip _ _ (.skip _ _ (.skip _ _ (.putEq (by rw [hc5]) (.refl _)) rfl) rfl) rfl) rfl) rfl))
  refine un1 rfl ?_
  refine gjoin 6 (d := 51) (v := (B (((r_ && (decide (a_.Query = b_.Query))) && ((a_.Asks == b_.Asks) && true)) && (decide (a_.Fragment = b_.Fragment))))) (fun X hX => ?_) ?_
  ·refine split2 (fun hc6 => ?_) (fun hc6 => ?_)
   ·refine gt rfl <| a1 (v := (.c (.ref 0 8 0 6))) rfl <| gt rfl <| a1 (v := (S a_.Fragment)) rfl <| gt rfl <| a1 (v := (.c (.ref 1 8 0 6))) rfl <| gt rfl <| a1 (v := (S b_.Fragment)) rfl <| gt rfl <| a1 (v := (B (decide (a_.Fragment = b_.Fragment)))) rfl <| un1 (v := (B (decide (a_.Fragment = b_.Fragment)))) rfl <| dnil ?_
    exact hX _ (.putEq (by rw [hc6]; rfl) (.skip _ _ (.skip _ _ (.skip _ _ (.skip _ _ (.skip _ _ (.putEq (by rw [hc6]) (.refl _)) rfl) rfl) rfl) rfl) rfl))
   ·refine gs rfl rfl <| gs rfl rfl <| gs rfl rfl <| gs rfl rfl <| gs rfl rfl <| un1 (v := (B false)) rfl <| dnil ?_
    exact hX _ (.putEq (by rw [hc6]; rfl) (.skip _ _ (.skip _ _ (.skip _ _ (.skip _ _ (.skip _ _ (.putEq (by rw [hc6]) (.refl _)) rfl) rfl) rfl) rfl) rfl))
  refine un1 rfl ?_
  refine gjoin 6 (d := 58) (v := (B ((((r_ && (decide (a_.Query = b_.Query))) && ((a_.Asks == b_.Asks) && true)) && (decide (a_.Fragment = b_.Fragment))) && ((a_.Points == b_.Points) && true)))) (fun X hX => ?_) ?_
  ·refine split2 (fun hc7 => ?_) (fun hc7 => ?_)
   ·refine gt rfl <| a1 (v := (.c (.ref 0 8 0 7))) rfl <| gt rfl <| a1 (v := (B a_.Points)) rfl <| gt rfl <| a1 (v := (.c (.ref 1 8 0 7))) rfl <| gt rfl <| a1 (v := (B b_.Points)) rfl <| gt rfl <| a1 (v := (B ((a_.Points == b_.Points) && true))) rfl <| un1 (v := (B ((a_.Points == b_.Points) && true))) rfl <| dnil ?_
    exact hX _ (.putEq (by rw [hc7]; rfl) (.skip _ _ (.skip _ _ (.skip _ _ (.skip _ _ (.skip _ _ (.putEq (by rw [hc7]) (.refl _)) rfl) rfl) rfl) rfl) rfl))
   ·refine gs rfl rfl <| gs rfl rfl <| gs rfl rfl <| gs rfl rfl <| gs rfl rfl <| un1 (v := (B false)) rfl <| dnil ?_
    exact hX _ (.putEq (by rw [hc7]; rfl) (.skip _ _ (.skip _ _ (.skip _ _ (.skip _ _ (.skip _ _ (.putEq (by rw [hc7]) (.refl _)) rfl) rfl) rfl) rfl) rfl))
  refine un1 rfl <| dnil ?_
  exact Sv.weak (wcn [] rfl (.cf rfl rfl .nil) .nil) (url_same_j1_ok h)
 ·replace h := ifF hc3 h
  refine gs rfl rfl <| gs rfl rfl <| gs rfl rfl <| gs rfl rfl <| gs rfl rfl <| un1 (v := (B false)) rfl <| un1 rfl <| gs rfl rfl <| gs rfl rfl <| gs rfl rfl <| gs rfl rfl <| gs rfl rfl <| un1 (v := (B false)) rfl <| un1 rfl <| gs rfl rfl <| gs rfl rfl <| gs rfl rfl <| gs rfl rfl <| gs rfl rfl <| un1 (v := (B false)) rfl <| un1 rfl <| gs rfl rfl <| gs rfl rfl <| gs rfl rfl <| gs rfl rfl <| gs rfl rfl <| un1 (v := (B false)) rfl <| un1 rfl <| gs rfl rfl <| gs rfl rfl <| gs rfl rfl <| gs rfl rfl <| gs rfl rfl <| un1 (v := (B false)) rfl <| un1 rfl <| dnil ?_
  exact Sv.weak (wcn [] rfl (.cf rfl rfl .nil) .nil) (url_same_j1_ok h)
def a13_c0 : ACode := (.cond (.tmp 23) (.seq (.region [⟨(some 2), (.mov (kI 3)), none⟩])
 .ret) .skip)
def a13_c1 : ACode := (.seq (.region [⟨(some 2), (.mov (kI 0)), none⟩])
 .ret)
def a13 : AFunc := ⟨1, [(.tmp 2)], (.seq (.region [(oP 1 (.box (.tmp 0))), ⟨(some 2), (.mov (kI 0)), none⟩])
 (.seq (.region [(oP 6 (.load true 8 (.tmp 1))), (oP 7 (.call 37 [(.tmp 6)])), (mV 3 7)])
 (.seq (.seq (.region [(mV 8 3), (oP 9 (.lenS (.tmp 8))), ⟨(some 10), (.bin .gtr (.tmp 9) (kI 500)), none⟩])
 (.cond (.tmp 10) (.seq (.region [⟨(some 2), (.mov (kI 2)), none⟩])
 .ret) .skip))
 (.seq (.seq (.region [(mV 12 3), (oP 13 (.call 6 [(.tmp 12)])), (mV 11 13), (oP 14 (.ext (.tmp 11) 0)), (oP 15 (.ext (.tmp 11) 1)), ⟨(some 4), (.box (.const (.agg [(.str []), (.str []), (.val (.int .i64 0)), (.ro true 1 []), (.str []), (.val (.bool false)), (.str []), (.val (.bool false))]))), none⟩, ⟨none, (.store 8 (.tmp 4) (.tmp 14)), none⟩, (mV 5 15)])
 (.seq (.region [(mV 16 5), ⟨(some 17), (.bin .neq (.tmp 16) (kI 0)), none⟩, (mV 18 17), ⟨(some 19), (.load true 8 (.tmp 1)), (some (18, false))⟩, ⟨(some 20), (.load true 8 (.tmp 4)), (some (18, false))⟩, ⟨(some 21), (.call 38 [(.tmp 19), (.tmp 20)]), (some (18, false))⟩, ⟨(some 22), (.un .not (.tmp 21)), (some (18, false))⟩, ⟨(some 23), (.pick (.tmp 18) (.const (.c (.val (.bool true)))) (.tmp 22)), none⟩])
 a13_c0))
 a13_c1))))⟩
set_option maxRecDepth 100000 in
theorem c13 : compFunc Tryz.prog 13 = some a13 := by kernel_rfl
def url_Check_post (r : Int) : AV → Heap → Nat → Prop := fun v h' n' => v = (I r) ∧ (h' = e0) ∧ n' = 0
abbrev url_Check_q0 (mL : Int) (o : Int) : AExit → St → Prop := AThen (Sv Tryz.prog (GG mL) 0 a13_c1 (Ends a13.results 0 (url_Check_post o))) (Ends a13.results 0 (url_Check_post o))
noncomputable def url_Check_j1 (v23 : Bool) : Option Int :=
 if v23 then
  some 3
 else
  some 0
theorem url_Check_j1_ok {mL : Int} {v23 : Bool} {o : Int} (h : url_Check_j1 v23 = some o) :
  Sv Tryz.prog (GG mL) 0 a13_c0 (url_Check_q0 mL o) ⟨(upd e0 23 (some (B v23))), e0, 0⟩ := by
 unfold url_Check_j1 at h
 refine Sv.cond (b := v23) rfl (fun hc2 => ?_) (fun hc2 => ?_)
 ·replace h := ifT hc2 h
  refine ssr <| un1 rfl <| dnil <| Sv.ret ?_
  replace h := Option.some.inj h
  subst h
  exact ⟨_, .refl _, _, rfl, ⟨upd e0 0 (some (I 3)), e0, 0⟩, (I 3), weak_canon [] rfl List.nodup_nil (Nat.le_refl _) nlz (.cf rfl rfl .nil) .nil, rfl, rfl, rfl, rfl⟩
 ·replace h := ifF hc2 h
  refine Sv.skip <| ssr <| un1 rfl <| dnil <| Sv.ret ?_
  replace h := Option.some.inj h
  subst h
  exact ⟨_, .refl _, _, rfl, ⟨upd e0 0 (some (I 0)), e0, 0⟩, (I 0), weak_canon [] rfl List.nodup_nil (Nat.le_refl _) nlz (.cf rfl rfl .nil) .nil, rfl, rfl, rfl, rfl⟩
/-- clerestory/url.Check -/
noncomputable def url_Check (u_ : TJUrl) : Option Int :=
 (url_text u_).bind fun r_ =>
 if decide (500 < (r_.length : Int)) then
  some 2
 else
  (url_Parse r_).bind fun r_1 =>
  if (!decide (r_1.2 = 0)) then
   url_Check_j1 true
  else
   (url_same u_ r_1.1).bind fun r_2 =>
   url_Check_j1 (!r_2)
theorem url_Check_ok {mL : Int} {u_ : TJUrl} {r : Int} (h : url_Check u_ = some r) : CPure Tryz.prog (GG mL) 13 [(.agg [.str u_.Scheme, .str u_.Host, cI u_.Port, .ro false 1 (u_.Path.map eStr), .str u_.Query, cB u_.Asks, .str u_.Fragment, cB u_.Points])] (I r) := by
 refine acalls_of_sv hmix c13 (R := url_Check_post r) ?_
 unfold url_Check at h
 refine ssr <| un <| a2v (v := (.c (.ref 0 8 0 0))) (h' := upd _ 0 (some (.cells 8 [[.str u_.Scheme, .str u_.Host, cI u_.Port, .ro false 1 (u_.Path.map eStr), .str u_.Query, cB u_.Asks, .str u_.Fragment, cB u_.Points]]))) (n' := 1) rfl rfl (fun h => by cases h) <| un1 rfl <| dnil <| ssr <| un1 (v := (.agg [.str u_.Scheme, .str u_.Host, cI u_.Port, .ro false 1 (u_.Path.map eStr), .str u_.Query, cB u_.Asks, .str u_.Fragment, cB u_.Points])) rfl ?_
 obtain ⟨r_, hr1, h⟩ := bnd h
 refine un <| ac_pure (url_text_ok hr1) rfl rfl rfl <| un1 rfl <| dnil <| Sv.seq <| ssr <| un1 rfl <| un1 (v := (I (r_.length : Int))) rfl <| un1 (v := (B (decide (500 < (r_.length : Int))))) rfl <| dnil ?_
 refine Sv.cond (b := decide (500 < (r_.length : Int))) rfl (fun hc1 => ?_) (fun hc1 => ?_)
 ·replace h := ifT hc1 h
  refine ssr <| un1 rfl <| dnil <| Sv.ret ?_
  replace h := Option.some.inj h
  subst h
  exact ⟨_, .refl _, _, rfl, ⟨upd e0 0 (some (I 2)), e0, 0⟩, (I 2), weak_canon [] rfl List.nodup_nil (Nat.le_refl _) nlz (.cf rfl rfl .nil) .nil, rfl, rfl, rfl, rfl⟩
 ·replace h := ifF hc1 h
  refine Sv.skip <| Sv.seq <| ssr <| un1 rfl ?_
  obtain ⟨r_1, hr2, h⟩ := bnd h
  refine un <| ac_pure (url_Parse_ok hr2) rfl rfl rfl <| un1 rfl <| un1 (v := (.agg [.str r_1.1.Scheme, .str r_1.1.Host, cI r_1.1.Port, .ro false 1 (r_1.1.Path.map eStr), .str r_1.1.Query, cB r_1.1.Asks, .str r_1.1.Fragment, cB r_1.1.Points])) rfl <| un1 (v := (I r_1.2)) rfl <| un <| a2v (v := (.c (.ref 1 8 0 0))) (h' := upd _ 1 (some (.cells 8 [[.str [], .str [], cI 0, .ro true 1 [], .str [], cB false, .str [], cB false]]))) (n' := 2) rfl rfl (fun h => by cases h) <| un <| a2n (h' := upd _ 1 (some (.cells 8 [[.str r_1.1.Scheme, .str r_1.1.Host, cI r_1.1.Port, .ro false 1 (r_1.1.Path.map eStr), .str r_1.1.Query, cB r_1.1.Asks, .str r_1.1.Fragment, cB r_1.1.Points]]))) (n' := 2) rfl rfl (fun h => by cases h) <| un1 rfl <| dnil <| ssr <| un1 rfl <| un1 (v := (B (!decide (r_1.2 = 0)))) rfl <| un1 rfl ?_
  refine split2 (fun hc3 => ?_) (fun hc3 => ?_)
  ·replace h := ifT hc3 h
   refine gs rfl rfl <| gs rfl rfl <| gs rfl rfl <| gs rfl rfl <| un1 (v := (B true)) rfl <| dnil ?_
   exact Sv.weak (wcn [] rfl (.cf rfl rfl .nil) .nil) (url_Check_j1_ok h)
  ·replace h := ifF hc3 h
   refine gt rfl <| a1 (v := (.agg [.str u_.Scheme, .str u_.Host, cI u_.Port, .ro false 1 (u_.Path.map eStr), .str u_.Query, cB u_.Asks, .str u_.Fragment, cB u_.Points])) rfl <| gt rfl <| a1 (v := (.agg [.str r_1.1.Scheme, .str r_1.1.Host, cI r_1.1.Port, .ro false 1 (r_1.1.Path.map eStr), .str r_1.1.Query, cB r_1.1.Asks, .str r_1.1.Fragment, cB r_1.1.Points])) rfl ?_
   obtain ⟨r_2, hr3, h⟩ := bnd h
   refine gt rfl <| ac_pure (url_same_ok hr3) rfl rfl rfl <| gt rfl <| a1 (v := (B (!r_2))) rfl <| un1 (v := (B (!r_2))) rfl <| dnil ?_
   exact Sv.weak (wcn [] rfl (.cf rfl rfl .nil) .nil) (url_Check_j1_ok h)
def a11 : AFunc := ⟨1, [(.tmp 2), (.tmp 3)], (.seq (.region [(oP 1 (.box (.tmp 0))), ⟨(some 2), (.mov (.const (.c (.str [])))), none⟩, ⟨(some 3), (.mov (kI 0)), none⟩])
 (.seq (.seq (.region [(oP 5 (.load true 8 (.tmp 1))), (oP 6 (.call 13 [(.tmp 5)])), (mV 4 6)])
 (.seq (.region [(mV 7 4), ⟨(some 8), (.bin .neq (.tmp 7) (kI 0)), none⟩])
 (.cond (.tmp 8) (.seq (.region [(mV 9 4), ⟨(some 2), (.mov (.const (.c (.str [])))), none⟩, (mV 3 9)])
 .ret) .skip)))
 (.seq (.region [(oP 10 (.load true 8 (.tmp 1))), (oP 11 (.call 37 [(.tmp 10)])), (mV 2 11), ⟨(some 3), (.mov (kI 0)), none⟩])
 .ret)))⟩
set_option maxRecDepth 100000 in
theorem c11 : compFunc Tryz.prog 11 = some a11 := by kernel_rfl
def url_Write_post (r : (Tx × Int)) : AV → Heap → Nat → Prop := fun v h' n' => v = (.tup [(S r.1), (I r.2)]) ∧ (h' = e0) ∧ n' = 0
/-- clerestory/url.Write -/
noncomputable def url_Write (u_ : TJUrl) : Option (Tx × Int) :=
 (url_Check u_).bind fun r_ =>
 if (!decide (r_ = 0)) then
  some ([], r_)
 else
  (url_text u_).bind fun r_1 =>
  some (r_1, 0)
theorem url_Write_ok {mL : Int} {u_ : TJUrl} {r : (Tx × Int)} (h : url_Write u_ = some r) : CPure Tryz.prog (GG mL) 11 [(.agg [.str u_.Scheme, .str u_.Host, cI u_.Port, .ro false 1 (u_.Path.map eStr), .str u_.Query, cB u_.Asks, .str u_.Fragment, cB u_.Points])] (.tup [(S r.1), (I r.2)]) := by
 refine acalls_of_sv hmix c11 (R := url_Write_post r) ?_
 unfold url_Write at h
 refine ssr <| un <| a2v (v := (.c (.ref 0 8 0 0))) (h' := upd _ 0 (some (.cells 8 [[.str u_.Scheme, .str u_.Host, cI u_.Port, .ro false 1 (u_.Path.map eStr), .str u_.Query, cB u_.Asks, .str u_.Fragment, cB u_.Points]]))) (n' := 1) rfl rfl (fun h => by cases h) <| un1 rfl <| un1 rfl <| dnil <| Sv.seq <| ssr <| un1 (v := (.agg [.str u_.Scheme, .str u_.Host, cI u_.Port, .ro false 1 (u_.Path.map eStr), .str u_.Query, cB u_.Asks, .str u_.Fragment, cB u_.Points])) rfl ?_
 obtain ⟨r_, hr1, h⟩ := bnd h
 refine un <| ac_pure (url_Check_ok hr1) rfl rfl rfl <| un1 rfl <| dnil <| ssr <| un1 rfl <| un1 (v := (B (!decide (r_ = 0)))) rfl <| dnil ?_
 refine Sv.cond (b := (!decide (r_ = 0))) rfl (fun hc1 => ?_) (fun hc1 => ?_)
 ·replace h := ifT hc1 h
  refine ssr <| un1 rfl <| un1 rfl <| un1 rfl <| dnil <| Sv.ret ?_
  replace h := Option.some.inj h
  subst h
  exact ⟨_, .refl _, _, rfl, ⟨upd e0 0 (some (.tup [(S []), (I r_)])), e0, 0⟩, (.tup [(S []), (I r_)]), weak_canon [] rfl List.nodup_nil (Nat.le_refl _) nlz (.cons rfl (avAs_tup (.cons (avAs_free rfl) (.cons (avAs_free rfl) .nil))) .nil) .nil, rfl, rfl, rfl, rfl⟩
 ·replace h := ifF hc1 h
  refine Sv.skip <| ssr <| un1 (v := (.agg [.str u_.Scheme, .str u_.Host, cI u_.Port, .ro false 1 (u_.Path.map eStr), .str u_.Query, cB u_.Asks, .str u_.Fragment, cB u_.Points])) rfl ?_
  obtain ⟨r_1, hr2, h⟩ := bnd h
  refine un <| ac_pure (url_text_ok hr2) rfl rfl rfl <| un1 rfl <| un1 rfl <| dnil <| Sv.ret ?_
  replace h := Option.some.inj h
  subst h
  exact ⟨_, .refl _, _, rfl, ⟨upd e0 0 (some (.tup [(S r_1), (I 0)])), e0, 0⟩, (.tup [(S r_1), (I 0)]), weak_canon [] rfl List.nodup_nil (Nat.le_refl _) nlz (.cons rfl (avAs_tup (.cons (avAs_free rfl) (.cons (avAs_free rfl) .nil))) .nil) .nil, rfl, rfl, rfl, rfl⟩
def a10_c0 : ACode := (.seq (.region [(mV 19 3), (mV 2 19)])
 .ret)
def a10 : AFunc := ⟨1, [(.tmp 2)], (.seq (.region [(oP 1 (.box (.tmp 0))), ⟨(some 2), (.mov (.const (.c (.str [])))), none⟩])
 (.seq (.region [(oP 4 (.faddr 0 (.tmp 1))), (oP 5 (.load false 1 (.tmp 4))), ⟨(some 6), (.bin .add (.tmp 5) (.const (.c (.str [58, 47, 47])))), none⟩, (oP 7 (.faddr 1 (.tmp 1))), (oP 8 (.load false 1 (.tmp 7))), (oP 9 (.bin .add (.tmp 6) (.tmp 8))), (mV 3 9)])
 (.seq (.seq (.region [(oP 10 (.faddr 2 (.tmp 1))), (oP 11 (.load false 1 (.tmp 10))), ⟨(some 12), (.bin .neq (.tmp 11) (kI 0)), none⟩])
 (.cond (.tmp 12) (.region [(mV 13 3), (oP 14 (.faddr 2 (.tmp 1))), (oP 15 (.load false 1 (.tmp 14))), (oP 16 (.call 36 [(.tmp 15)])), ⟨(some 17), (.bin .add (.const (.c (.str [58]))) (.tmp 16)), none⟩, (oP 18 (.bin .add (.tmp 13) (.tmp 17))), (mV 3 18)]) .skip))
 a10_c0)))⟩
set_option maxRecDepth 100000 in
theorem c10 : compFunc Tryz.prog 10 = some a10 := by kernel_rfl
def r4_OriginOf_post (r : Tx) : AV → Heap → Nat → Prop := fun v h' n' => v = (S r) ∧ (h' = e0) ∧ n' = 0
noncomputable def r4_OriginOf_j1 (out : Tx) : Option Tx :=
 some out
theorem r4_OriginOf_j1_ok {mL : Int} {out : Tx} {o : Tx} (h : r4_OriginOf_j1 out = some o) :
  Sv Tryz.prog (GG mL) 0 a10_c0 (Ends a10.results 0 (r4_OriginOf_post o)) ⟨(upd e0 3 (some (S out))), e0, 0⟩ := by
 unfold r4_OriginOf_j1 at h
 refine ssr <| un1 rfl <| un1 rfl <| dnil <| Sv.ret ?_
 replace h := Option.some.inj h
 subst h
 exact ⟨_, .refl _, _, rfl, ⟨upd e0 0 (some (S out)), e0, 0⟩, (S out), weak_canon [] rfl List.nodup_nil (Nat.le_refl _) nlz (.cf rfl rfl .nil) .nil, rfl, rfl, rfl, rfl⟩
/-- clerestory/clerestoryref4.OriginOf -/
noncomputable def r4_OriginOf (u_ : TJUrl) : Option Tx :=
 (cat? u_.Scheme [58, 47, 47]).bind fun r_ =>
 (cat? r_ u_.Host).bind fun r_1 =>
 if (!decide (u_.Port = 0)) then
  (strconv_Itoa u_.Port).bind fun r_2 =>
  (cat? [58] r_2).bind fun r_3 =>
  (cat? r_1 r_3).bind fun r_4 =>
  r4_OriginOf_j1 r_4
 else
  r4_OriginOf_j1 r_1
theorem r4_OriginOf_ok {mL : Int} {u_ : TJUrl} {r : Tx} (h : r4_OriginOf u_ = some r) : CPure Tryz.prog (GG mL) 10 [(.agg [.str u_.Scheme, .str u_.Host, cI u_.Port, .ro false 1 (u_.Path.map eStr), .str u_.Query, cB u_.Asks, .str u_.Fragment, cB u_.Points])] (S r) := by
 refine acalls_of_sv hmix c10 (R := r4_OriginOf_post r) ?_
 unfold r4_OriginOf at h
 refine ssr <| un <| a2v (v := (.c (.ref 0 8 0 0))) (h' := upd _ 0 (some (.cells 8 [[.str u_.Scheme, .str u_.Host, cI u_.Port, .ro false 1 (u_.Path.map eStr), .str u_.Query, cB u_.Asks, .str u_.Fragment, cB u_.Points]]))) (n' := 1) rfl rfl (fun h => by cases h) <| un1 rfl <| dnil <| ssr <| un1 (v := (.c (.ref 0 8 0 0))) rfl <| un1 (v := (S u_.Scheme)) rfl ?_
 obtain ⟨r_, hx1, h⟩ := bnd h
 refine un1 (v := (S r_)) (s_cat rfl rfl hx1) <| un1 (v := (.c (.ref 0 8 0 1))) rfl <| un1 (v := (S u_.Host)) rfl ?_
 obtain ⟨r_1, hx2, h⟩ := bnd h
 refine un1 (v := (S r_1)) (s_cat rfl rfl hx2) <| un1 rfl <| dnil <| Sv.seq <| ssr <| un1 (v := (.c (.ref 0 8 0 2))) rfl <| un1 (v := (I u_.Port)) rfl <| un1 (v := (B (!decide (u_.Port = 0)))) rfl <| dnil ?_
 refine Sv.cond (b := (!decide (u_.Port = 0))) rfl (fun hc1 => ?_) (fun hc1 => ?_)
 ·replace h := ifT hc1 h
  refine srg <| un1 rfl <| un1 (v := (.c (.ref 0 8 0 2))) rfl <| un1 (v := (I u_.Port)) rfl ?_
  obtain ⟨r_2, hr1, h⟩ := bnd h
  refine un <| ac_pure (strconv_Itoa_ok hr1) rfl rfl rfl ?_
  obtain ⟨r_3, hx3, h⟩ := bnd h
  refine un1 (v := (S r_3)) (s_cat rfl rfl hx3) ?_
  obtain ⟨r_4, hx4, h⟩ := bnd h
  refine un1 (v := (S r_4)) (s_cat rfl rfl hx4) <| un1 rfl <| dnil ?_
  exact Sv.weak (wcn [] rfl (.cf rfl rfl .nil) .nil) (r4_OriginOf_j1_ok h)
 ·replace h := ifF hc1 h
  refine Sv.skip ?_
  exact Sv.weak (wcn [] rfl (.cf rfl rfl .nil) .nil) (r4_OriginOf_j1_ok h)
noncomputable abbrev strings_Contains (s_ : Tx) (substr_ : Tx) : Option Bool := contains? s_ substr_
/-- strings.Contains+, by the contract of the shelf -/
theorem strings_Contains_ok {mL : Int} {s_ : Tx} {substr_ : Tx} {r : Bool} (h : strings_Contains s_ substr_ = some r) : CPure Tryz.prog (GG mL) 60 [(S s_), (S substr_)] (B r) := contains_ok (m := mL) Tryz.lays144 rfl h
def a68 : AFunc := ⟨1, [(.tmp 2)], (.seq (.region [⟨(some 2), (.mov (.const (.c (.val (.bool false))))), none⟩])
 (.seq (.region [(mV 3 0), (oP 4 (.bslice 1 [(.val (.int .u8 0))] 1 [(0, (.tmp 3))])), (oP 5 (.ofBytes (.tmp 4))), ⟨(some 6), (.call 60 [(.const (.c (.str [97, 98, 99, 100, 101, 102, 103, 104, 105, 106, 107, 108, 109, 110, 111, 112, 113, 114, 115, 116, 117, 118, 119, 120, 121, 122, 65, 66, 67, 68, 69, 70, 71, 72, 73, 74, 75, 76, 77, 78, 79, 80, 81, 82, 83, 84, 85, 86, 87, 88, 89, 90, 48, 49, 50, 51, 52, 53, 54, 55, 56, 57, 45, 46, 95, 126]))), (.tmp 5)]), none⟩, (mV 7 6), ⟨(some 8), (.mov (.tmp 0)), (some (7, true))⟩, ⟨(some 9), (.bin .lss (.tmp 8) (.const (.c (.val (.int .u8 128))))), (some (7, true))⟩, ⟨(some 10), (.pick (.tmp 7) (.tmp 9) (.const (.c (.val (.bool false))))), none⟩, (mV 2 10)])
 .ret))⟩
set_option maxRecDepth 100000 in
theorem c68 : compFunc Tryz.prog 68 = some a68 := by kernel_rfl
def r4_isPlain_post (r : Bool) : AV → Heap → Nat → Prop := fun v h' n' => v = (B r) ∧ (h' = e0) ∧ n' = 0
/-- clerestory/clerestoryref4.isPlain -/
noncomputable def r4_isPlain (c_ : Int) : Option Bool :=
 (strings_Contains [97, 98, 99, 100, 101, 102, 103, 104, 105, 106, 107, 108, 109, 110, 111, 112, 113, 114, 115, 116, 117, 118, 119, 120, 121, 122, 65, 66, 67, 68, 69, 70, 71, 72, 73, 74, 75, 76, 77, 78, 79, 80, 81, 82, 83, 84, 85, 86, 87, 88, 89, 90, 48, 49, 50, 51, 52, 53, 54, 55, 56, 57, 45, 46, 95, 126] (byts [c_])).bind fun r_ =>
 some (r_ && (decide (c_ < 128)))
theorem r4_isPlain_ok {mL : Int} {c_ : Int} {r : Bool} (h : r4_isPlain c_ = some r) : CPure Tryz.prog (GG mL) 68 [(.c (.val (.int .u8 c_)))] (B r) := by
 refine acalls_of_sv hmix c68 (R := r4_isPlain_post r) ?_
 unfold r4_isPlain at h
 refine ssr <| un1 rfl <| dnil <| ssr <| un1 rfl <| un <| a2v (v := (lstV false 0 1 [c_].length)) (h' := upd _ 0 (lstB false 1 ([c_].map (eK .u8)))) (n' := 1) rfl rfl (fun h => by cases h) <| un1 (v := (S (byts [c_]))) (s_ofBytes (xs := [c_]) rfl (slc_lst rfl (List.length_map _).symm (map_nil_of (fun h => by cases h)))) ?_
 obtain ⟨r_, hr1, h⟩ := bnd h
 refine un <| ac_pure (strings_Contains_ok hr1) rfl rfl rfl <| un1 rfl ?_
 refine gjoin 3 (d := 10) (v := (B (r_ && (decide (c_ < 128))))) (fun X hX => ?_) ?_
 ·refine split2 (fun hc1 => ?_) (fun hc1 => ?_)
  ·refine gt rfl <| a1 rfl <| gt rfl <| a1 (v := (B (decide (c_ < 128)))) rfl <| un1 (v := (B (decide (c_ < 128)))) rfl <| dnil ?_
   exact hX _ (.putEq (by rw [hc1]; rfl) (.skip _ _ (.skip _ _ (.putEq (by rw [hc1]) (.refl _)) rfl) rfl))
  ·refine gs rfl rfl <| gs rfl rfl <| un1 (v := (B false)) rfl <| dnil ?_
   exact hX _ (.putEq (by rw [hc1]; rfl) (.skip _ _ (.skip _ _ (.putEq (by rw [hc1]) (.refl _)) rfl) rfl))
 refine un1 rfl <| dnil <| Sv.ret ?_
 replace h := Option.some.inj h
 subst h
 exact ⟨_, .refl _, _, rfl, ⟨upd e0 0 (some (B (r_ && (decide (c_ < 128))))), e0, 0⟩, (B (r_ && (decide (c_ < 128)))), weak_canon [] rfl List.nodup_nil (Nat.le_refl _) nlz (.cf rfl rfl .nil) .nil, rfl, rfl, rfl, rfl⟩
def a39_c0 : ACode := (.region [⟨(some 39), (.bin .add (.tmp 10) (kI 1)), none⟩, (mV 10 39)])
def a39_c1 : ACode := (.seq (.region [(oP 11 (.bin .lss (.tmp 10) (.tmp 9)))])
 (.seq (.cond (.tmp 11) .skip (.exit 0))
 (.seq (.block 1 (.seq (.region [(oP 12 (.iaddr 1 (.tmp 8) (.tmp 10))), (oP 13 (.load false 1 (.tmp 12))), (mV 5 13)])
 (.seq (.region [(mV 14 5), (oP 15 (.call 68 [(.tmp 14)]))])
 (.cond (.tmp 15) (.region [(mV 16 3), (mV 17 5), (oP 18 (.bslice 1 [(.val (.int .u8 0))] 1 [(0, (.tmp 17))])), (oP 19 (.ofBytes (.tmp 18))), (oP 20 (.bin .add (.tmp 16) (.tmp 19))), (mV 3 20)]) (.seq (.region [⟨(some 6), (.mov (.const (.c (.str [48, 49, 50, 51, 52, 53, 54, 55, 56, 57, 65, 66, 67, 68, 69, 70])))), none⟩])
 (.drawn (.fin [((mV 21 3), (0, 0)), ((mV 22 6), (0, 1)), ((mV 23 5), (0, 2)), (⟨(some 24), (.bin .quo (.tmp 23) (.const (.c (.val (.int .u8 16))))), none⟩, (0, 3)), ((mV 25 5), (0, 4)), (⟨(some 26), (.bin .quo (.tmp 25) (.const (.c (.val (.int .u8 16))))), none⟩, (0, 5)), (⟨(some 27), (.bin .add (.tmp 26) (.const (.c (.val (.int .u8 1))))), none⟩, (0, 6)), ((oP 28 (.slStr (.tmp 22) (some (.tmp 24)) (some (.tmp 27)))), (0, 7)), (⟨(some 29), (.bin .add (.const (.c (.str [37]))) (.tmp 28)), none⟩, (0, 8)), ((mV 30 6), (0, 9)), ((mV 31 5), (0, 10)), (⟨(some 32), (.bin .rem (.tmp 31) (.const (.c (.val (.int .u8 16))))), none⟩, (0, 11)), ((mV 33 5), (0, 12)), (⟨(some 34), (.bin .rem (.tmp 33) (.const (.c (.val (.int .u8 16))))), none⟩, (0, 13)), (⟨(some 35), (.bin .add (.tmp 34) (.const (.c (.val (.int .u8 1))))), none⟩, (0, 14)), ((oP 36 (.slStr (.tmp 30) (some (.tmp 32)) (some (.tmp 35)))), (0, 15)), ((oP 37 (.bin .add (.tmp 29) (.tmp 36))), (0, 16)), ((oP 38 (.bin .add (.tmp 21) (.tmp 37))), (0, 17)), ((mV 3 38), (0, 18))])))))))
 a39_c0)))
def a39 : AFunc := ⟨1, [(.tmp 2)], (.seq (.region [⟨(some 2), (.mov (.const (.c (.str [])))), none⟩])
 (.seq (.region [⟨(some 3), (.mov (.const (.c (.str [])))), none⟩])
 (.seq (.seq (.region [(mV 7 0), (oP 8 (.toBytes (.tmp 7))), (oP 9 (.len (.tmp 8))), ⟨(some 10), (.mov (kI 0)), none⟩])
 (.block 0 (.loop a39_c1)))
 (.seq (.region [(mV 40 3), (mV 2 40)])
 .ret))))⟩
set_option maxRecDepth 100000 in
theorem c39 : compFunc Tryz.prog 39 = some a39 := by kernel_rfl
def r4_Encoded_post (r : Tx) : AV → Heap → Nat → Prop := fun v h' n' => v = (S r) ∧ (h' = e0) ∧ n' = 0
noncomputable def r4_Encoded_j3 (v10 : Int) (s_ : Tx) (self : Tx → (List Int) → Int → Option Tx) (K0_ : Tx → Option Tx) (out2 : Tx) (v81 : (List Int)) : Option Tx :=
 self out2 v81 (wi (v10 + 1))
theorem r4_Encoded_j3_ok {mL : Int} {Q : AExit → St → Prop} {v10 : Int} {s_ : Tx} {self : Tx → (List Int) → Int → Option Tx} {K0_ : Tx → Option Tx} {out2 : Tx} {v81 : (List Int)} {zv81 : Bool} (hzv81 : zv81 = true → v81 = []) {o : Tx} (h : r4_Encoded_j3 v10 s_ self K0_ out2 v81 = some o)
  (hself : ∀ (out : Tx) (v8 : (List Int)) (v10 : Int) (zv8 : Bool) (_ : zv8 = true → v8 = []), self out v8 v10 = some o → ∀ s, Weak 0 s ⟨(upd (upd (upd (upd e0 3 (some (S out))) 8 (some (lstV zv8 0 1 v8.length))) 9 (some (I ((ints s_).length : Int)))) 10 (some (I v10))), (upd e0 0 (lstB zv8 1 (v8.map (eK .u8)))), 1⟩ → (Q) .normal s)
  (hK0 : ∀ (out1 : Tx), K0_ out1 = some o → ∀ s, Weak 0 s ⟨(upd e0 3 (some (S out1))), e0, 0⟩ → Q (.exit 0) s)
  (hr : ∀ s, Ends a39.results 0 (r4_Encoded_post o) .ret s → Q .ret s) :
  Sv Tryz.prog (GG mL) 0 a39_c0 Q ⟨(upd (upd (upd (upd e0 3 (some (S out2))) 8 (some (lstV zv81 0 1 v81.length))) 9 (some (I ((ints s_).length : Int)))) 10 (some (I v10))), (upd e0 0 (lstB zv81 1 (v81.map (eK .u8)))), 1⟩ := by
 unfold r4_Encoded_j3 at h
 refine srg <| un1 (v := (I (wi (v10 + 1)))) rfl <| un1 rfl <| dnil ?_
 exact hself out2 v81 (wi (v10 + 1)) zv81 hzv81 h _ (wcn [0] rfl (.cf rfl rfl (.cf rfl rfl (.cons rfl (.c (lstC_ren rfl (by decide))) (.cf rfl rfl .nil)))) (.row (by decide) rfl (fr_map fun _ => rfl) .nil))
noncomputable def r4_Encoded_l0 (s_ : Tx) (K0_ : Tx → Option Tx) : Nat → Tx → (List Int) → Int → Option Tx
 | 0, _, _, _ => none
 | k + 1, out, v8, v10 =>
  if decide (v10 < ((ints s_).length : Int)) then
   (at? v8 v10).bind fun x_ =>
   (r4_isPlain x_).bind fun r_ =>
   if r_ then
    (cat? out (byts [x_])).bind fun r_1 =>
    r4_Encoded_j3 v10 s_ (r4_Encoded_l0 s_ K0_ k) K0_ r_1 v8
   else
    (sub? [48, 49, 50, 51, 52, 53, 54, 55, 56, 57, 65, 66, 67, 68, 69, 70] (wr .u8 (x_.tdiv 16)) (wr .u8 ((wr .u8 (x_.tdiv 16)) + 1))).bind fun r_2 =>
    (cat? [37] r_2).bind fun r_3 =>
    (sub? [48, 49, 50, 51, 52, 53, 54, 55, 56, 57, 65, 66, 67, 68, 69, 70] (x_.tmod 16) (wr .u8 ((x_.tmod 16) + 1))).bind fun r_4 =>
    (cat? r_3 r_4).bind fun r_5 =>
    (cat? out r_5).bind fun r_6 =>
    r4_Encoded_j3 v10 s_ (r4_Encoded_l0 s_ K0_ k) K0_ r_6 v8
  else
   K0_ out
theorem r4_Encoded_l0_ok {mL : Int} {Q : AExit → St → Prop} {s_ : Tx} {K0_ : Tx → Option Tx} {k : Nat} {out : Tx} {v8 : (List Int)} {v10 : Int} {zv8 : Bool} (hzv8 : zv8 = true → v8 = []) {o : Tx} (h : r4_Encoded_l0 s_ K0_ k out v8 v10 = some o)
  (hK0 : ∀ (out1 : Tx), K0_ out1 = some o → ∀ s, Weak 0 s ⟨(upd e0 3 (some (S out1))), e0, 0⟩ → Q (.exit 0) s)
  (hr : ∀ s, Ends a39.results 0 (r4_Encoded_post o) .ret s → Q .ret s) :
  Sv Tryz.prog (GG mL) 0 (.loop a39_c1) Q ⟨(upd (upd (upd (upd e0 3 (some (S out))) 8 (some (lstV zv8 0 1 v8.length))) 9 (some (I ((ints s_).length : Int)))) 10 (some (I v10))), (upd e0 0 (lstB zv8 1 (v8.map (eK .u8)))), 1⟩ := by
 refine Sv.loop (I := fun k s => ∃ (out : Tx), ∃ (v8 : (List Int)), ∃ (v10 : Int), ∃ (zv8 : Bool), (zv8 = true → v8 = []) ∧ r4_Encoded_l0 s_ K0_ k out v8 v10 = some o ∧ s = ⟨(upd (upd (upd (upd e0 3 (some (S out))) 8 (some (lstV zv8 0 1 v8.length))) 9 (some (I ((ints s_).length : Int)))) 10 (some (I v10))), (upd e0 0 (lstB zv8 1 (v8.map (eK .u8)))), 1⟩) (fun k s hI => ?_) ⟨out, v8, v10, zv8, hzv8, h, rfl⟩
 clear h
 clear hzv8 zv8 v10 v8 out
 obtain ⟨out, v8, v10, zv8, hzv8, h, rfl⟩ := hI
 cases k with
 | zero => cases h
 | succ k =>
 rw [r4_Encoded_l0] at h
 have hself : ∀ (out : Tx) (v8 : (List Int)) (v10 : Int) (zv8 : Bool) (_ : zv8 = true → v8 = []), (r4_Encoded_l0 s_ K0_ k) out v8 v10 = some o → ∀ s, Weak 0 s ⟨(upd (upd (upd (upd e0 3 (some (S out))) 8 (some (lstV zv8 0 1 v8.length))) 9 (some (I ((ints s_).length : Int)))) 10 (some (I v10))), (upd e0 0 (lstB zv8 1 (v8.map (eK .u8)))), 1⟩ → (AThen (fun s' => ∃ s'' k', Weak 0 s' s'' ∧ k' < k + 1 ∧ (fun k s => ∃ (out : Tx), ∃ (v8 : (List Int)), ∃ (v10 : Int), ∃ (zv8 : Bool), (zv8 = true → v8 = []) ∧ r4_Encoded_l0 s_ K0_ k out v8 v10 = some o ∧ s = ⟨(upd (upd (upd (upd e0 3 (some (S out))) 8 (some (lstV zv8 0 1 v8.length))) 9 (some (I ((ints s_).length : Int)))) 10 (some (I v10))), (upd e0 0 (lstB zv8 1 (v8.map (eK .u8)))), 1⟩) k' s'') Q) .normal s := fun out v8 v10 zv8 hzv8 h s hw => ⟨_, k, hw, Nat.lt_succ_self k, out, v8, v10, zv8, hzv8, h, rfl⟩
 refine ssr <| un1 (v := (B (decide (v10 < ((ints s_).length : Int))))) rfl <| dnil <| Sv.seq ?_
 refine Sv.cond (b := decide (v10 < ((ints s_).length : Int))) rfl (fun hc1 => ?_) (fun hc1 => ?_)
 ·replace h := ifT hc1 h
  refine Sv.skip <| Sv.seq <| Sv.block <| ssr ?_
  obtain ⟨x_, hx1, h⟩ := bnd h
  refine un1 (v := (.c (.ref 0 1 v10.toNat 0))) (s_iaddrL rfl rfl hzv8 hx1) <| un1 (v := (.c (.val (.int .u8 x_)))) (s_loadL (z := zv8) (e := (eK .u8)) rfl rfl hzv8 hx1 rfl rfl) <| un1 rfl <| dnil <| ssr <| un1 rfl ?_
  obtain ⟨r_, hr1, h⟩ := bnd h
  refine un <| ac_pure (r4_isPlain_ok hr1) rfl rfl rfl <| dnil ?_
  refine Sv.cond (b := r_) rfl (fun hc2 => ?_) (fun hc2 => ?_)
  ·replace h := ifT hc2 h
   refine srg <| un1 rfl <| un1 rfl <| un <| a2v (v := (lstV false 1 1 [x_].length)) (h' := upd _ 1 (lstB false 1 ([x_].map (eK .u8)))) (n' := 2) rfl rfl (fun h => by cases h) <| un1 (v := (S (byts [x_]))) (s_ofBytes (xs := [x_]) rfl (slc_lst rfl (List.length_map _).symm (map_nil_of (fun h => by cases h)))) ?_
   obtain ⟨r_1, hx2, h⟩ := bnd h
   refine un1 (v := (S r_1)) (s_cat rfl rfl hx2) <| un1 rfl <| dnil ?_
   exact Sv.weak (wcn [0] rfl (.cf rfl rfl (.cf rfl rfl (.cons rfl (.c (lstC_ren rfl (by decide))) (.cf rfl rfl .nil)))) (.row (by decide) rfl (fr_map fun _ => rfl) .nil)) (r4_Encoded_j3_ok hzv8 h hself hK0 hr)
  ·replace h := ifF hc2 h
   refine ssr <| un1 rfl <| dnil <| Sv.drawn <| un1 rfl <| un1 rfl <| un1 rfl <| un1 (v := (.c (.val (.int .u8 (wr .u8 (x_.tdiv 16)))))) rfl <| un1 rfl <| un1 (v := (.c (.val (.int .u8 (wr .u8 (x_.tdiv 16)))))) rfl <| un1 (v := (.c (.val (.int .u8 (wr .u8 ((wr .u8 (x_.tdiv 16)) + 1)))))) rfl ?_
   obtain ⟨r_2, hx3, h⟩ := bnd h
   refine un1 (v := (S r_2)) (s_slStr rfl rfl rfl hx3) ?_
   obtain ⟨r_3, hx4, h⟩ := bnd h
   refine un1 (v := (S r_3)) (s_cat rfl rfl hx4) <| un1 rfl <| un1 rfl <| un1 (v := (.c (.val (.int .u8 (x_.tmod 16))))) rfl <| un1 rfl <| un1 (v := (.c (.val (.int .u8 (x_.tmod 16))))) rfl <| un1 (v := (.c (.val (.int .u8 (wr .u8 ((x_.tmod 16) + 1)))))) rfl ?_
   obtain ⟨r_4, hx5, h⟩ := bnd h
   refine un1 (v := (S r_4)) (s_slStr rfl rfl rfl hx5) ?_
   obtain ⟨r_5, hx6, h⟩ := bnd h
   refine un1 (v := (S r_5)) (s_cat rfl rfl hx6) ?_
   obtain ⟨r_6, hx7, h⟩ := bnd h
   refine un1 (v := (S r_6)) (s_cat rfl rfl hx7) <| un1 rfl <| dnil ?_
   exact Sv.weak (wcn [0] rfl (.cf rfl rfl (.cf rfl rfl (.cons rfl (.c (lstC_ren rfl (by decide))) (.cf rfl rfl .nil)))) (.row (by decide) rfl (fr_map fun _ => rfl) .nil)) (r4_Encoded_j3_ok hzv8 h hself hK0 hr)
 ·replace h := ifF hc1 h
  refine Sv.exit ?_
  exact hK0 out h _ (wcn [] rfl (.cf rfl rfl .nil) .nil)
/-- clerestory/clerestoryref4.Encoded -/
noncomputable def r4_Encoded (s_ : Tx) : Option Tx :=
 lim fun kk => r4_Encoded_l0 s_ (fun (out1 : Tx) => 
   some out1) kk [] (ints s_) 0
theorem r4_Encoded_ok {mL : Int} {s_ : Tx} {r : Tx} (h : r4_Encoded s_ = some r) : CPure Tryz.prog (GG mL) 39 [(S s_)] (S r) := by
 refine acalls_of_sv hmix c39 (R := r4_Encoded_post r) ?_
 unfold r4_Encoded at h
 refine ssr <| un1 rfl <| dnil <| ssr <| un1 rfl <| dnil <| Sv.seq <| ssr <| un1 rfl <| un <| a2v (v := (lstV false 0 1 (ints s_).length)) (h' := upd _ 0 (lstB false 1 ((ints s_).map (eK .u8)))) (n' := 1) rfl (s_toBytes rfl) (fun h => by cases h) <| un1 (v := (I ((ints s_).length : Int))) (s_lenL rfl (len_nil_of (fun h => by cases h))) <| un1 rfl <| dnil <| Sv.block ?_
 obtain ⟨kk, h⟩ := lim_some h
 refine Sv.weak (wcn [0] rfl (.cf rfl rfl (.cf rfl rfl (.cons rfl (.c (lstC_ren rfl (by decide))) (.cf rfl rfl .nil)))) (.row (by decide) rfl (fr_map fun _ => rfl) .nil)) (r4_Encoded_l0_ok (fun h => by cases h) h ?_ (fun s hs => hs))
 ·intro out1 h _ hw1
  refine Sv.weak hw1 <| ssr <| un1 rfl <| un1 rfl <| dnil <| Sv.ret ?_
  replace h := Option.some.inj h
  subst h
  exact ⟨_, .refl _, _, rfl, ⟨upd e0 0 (some (S out1)), e0, 0⟩, (S out1), weak_canon [] rfl List.nodup_nil (Nat.le_refl _) nlz (.cf rfl rfl .nil) .nil, rfl, rfl, rfl, rfl⟩
def a14_c0 : ACode := (.seq (.region [(oP 12 (.bin .lss (.tmp 11) (.tmp 10)))])
 (.seq (.cond (.tmp 12) .skip (.exit 0))
 (.seq (.block 1 (.seq (.region [(oP 13 (.iaddr 1 (.tmp 9) (.tmp 11))), (oP 14 (.load false 1 (.tmp 13))), (mV 5 14)])
 (.region [(mV 15 3), (mV 16 5), (oP 17 (.call 39 [(.tmp 16)])), ⟨(some 18), (.bin .add (.const (.c (.str [47]))) (.tmp 17)), none⟩, (oP 19 (.bin .add (.tmp 15) (.tmp 18))), (mV 3 19)])))
 (.region [⟨(some 20), (.bin .add (.tmp 11) (kI 1)), none⟩, (mV 11 20)]))))
def a14_c2 : ACode := (.seq (.region [(mV 35 3), (mV 2 35)])
 .ret)
def a14_c1 : ACode := (.seq (.seq (.region [(oP 28 (.faddr 7 (.tmp 1))), (oP 29 (.load false 1 (.tmp 28)))])
 (.cond (.tmp 29) (.region [(mV 30 3), (oP 31 (.faddr 6 (.tmp 1))), (oP 32 (.load false 1 (.tmp 31))), ⟨(some 33), (.bin .add (.const (.c (.str [35]))) (.tmp 32)), none⟩, (oP 34 (.bin .add (.tmp 30) (.tmp 33))), (mV 3 34)]) .skip))
 a14_c2)
def a14 : AFunc := ⟨1, [(.tmp 2)], (.seq (.region [(oP 1 (.box (.tmp 0))), ⟨(some 2), (.mov (.const (.c (.str [])))), none⟩])
 (.seq (.region [(oP 6 (.load true 8 (.tmp 1))), (oP 7 (.call 10 [(.tmp 6)])), (mV 3 7)])
 (.seq (.seq (.region [(oP 8 (.faddr 3 (.tmp 1))), (oP 9 (.load false 1 (.tmp 8))), (oP 10 (.len (.tmp 9))), ⟨(some 11), (.mov (kI 0)), none⟩])
 (.block 0 (.loop a14_c0)))
 (.seq (.seq (.region [(oP 21 (.faddr 5 (.tmp 1))), (oP 22 (.load false 1 (.tmp 21)))])
 (.cond (.tmp 22) (.region [(mV 23 3), (oP 24 (.faddr 4 (.tmp 1))), (oP 25 (.load false 1 (.tmp 24))), ⟨(some 26), (.bin .add (.const (.c (.str [63]))) (.tmp 25)), none⟩, (oP 27 (.bin .add (.tmp 23) (.tmp 26))), (mV 3 27)]) .skip))
 a14_c1))))⟩
set_option maxRecDepth 100000 in
theorem c14 : compFunc Tryz.prog 14 = some a14 := by kernel_rfl
def r4_AddressText_post (r : Tx) : AV → Heap → Nat → Prop := fun v h' n' => v = (S r) ∧ (h' = e0) ∧ n' = 0
noncomputable def r4_AddressText_l0 (u_ : TJUrl) (K0_ : Tx → Option Tx) : Nat → Tx → Int → Option Tx
 | 0, _, _ => none
 | k + 1, out, v11 =>
  if decide (v11 < (u_.Path.length : Int)) then
   (at? u_.Path v11).bind fun x_ =>
   (r4_Encoded x_).bind fun r_1 =>
   (cat? [47] r_1).bind fun r_2 =>
   (cat? out r_2).bind fun r_3 =>
   (r4_AddressText_l0 u_ K0_ k) r_3 (wi (v11 + 1))
  else
   K0_ out
theorem r4_AddressText_l0_ok {mL : Int} {Q : AExit → St → Prop} {u_ : TJUrl} {K0_ : Tx → Option Tx} {k : Nat} {out : Tx} {v11 : Int} {o : Tx} (h : r4_AddressText_l0 u_ K0_ k out v11 = some o)
  (hK0 : ∀ (out1 : Tx), K0_ out1 = some o → ∀ s, Weak 0 s ⟨(upd (upd e0 1 (some (.c (.ref 0 8 0 0)))) 3 (some (S out1))), (upd e0 0 (some (.cells 8 [[.str u_.Scheme, .str u_.Host, cI u_.Port, .ro false 1 (u_.Path.map eStr), .str u_.Query, cB u_.Asks, .str u_.Fragment, cB u_.Points]]))), 1⟩ → Q (.exit 0) s)
  (hr : ∀ s, Ends a14.results 0 (r4_AddressText_post o) .ret s → Q .ret s) :
  Sv Tryz.prog (GG mL) 0 (.loop a14_c0) Q ⟨(upd (upd (upd (upd (upd e0 1 (some (.c (.ref 0 8 0 0)))) 3 (some (S out))) 9 (some (.c (.ro false 1 (u_.Path.map eStr))))) 10 (some (I (u_.Path.length : Int)))) 11 (some (I v11))), (upd e0 0 (some (.cells 8 [[.str u_.Scheme, .str u_.Host, cI u_.Port, .ro false 1 (u_.Path.map eStr), .str u_.Query, cB u_.Asks, .str u_.Fragment, cB u_.Points]]))), 1⟩ := by
 refine Sv.loop (I := fun k s => ∃ (out : Tx), ∃ (v11 : Int), r4_AddressText_l0 u_ K0_ k out v11 = some o ∧ s = ⟨(upd (upd (upd (upd (upd e0 1 (some (.c (.ref 0 8 0 0)))) 3 (some (S out))) 9 (some (.c (.ro false 1 (u_.Path.map eStr))))) 10 (some (I (u_.Path.length : Int)))) 11 (some (I v11))), (upd e0 0 (some (.cells 8 [[.str u_.Scheme, .str u_.Host, cI u_.Port, .ro false 1 (u_.Path.map eStr), .str u_.Query, cB u_.Asks, .str u_.Fragment, cB u_.Points]]))), 1⟩) (fun k s hI => ?_) ⟨out, v11, h, rfl⟩
 clear h
 clear v11 out
 obtain ⟨out, v11, h, rfl⟩ := hI
 cases k with
 | zero => cases h
 | succ k =>
 rw [r4_AddressText_l0] at h
 have hself : ∀ (out : Tx) (v11 : Int), (r4_AddressText_l0 u_ K0_ k) out v11 = some o → ∀ s, Weak 0 s ⟨(upd (upd (upd (upd (upd e0 1 (some (.c (.ref 0 8 0 0)))) 3 (some (S out))) 9 (some (.c (.ro false 1 (u_.Path.map eStr))))) 10 (some (I (u_.Path.length : Int)))) 11 (some (I v11))), (upd e0 0 (some (.cells 8 [[.str u_.Scheme, .str u_.Host, cI u_.Port, .ro false 1 (u_.Path.map eStr), .str u_.Query, cB u_.Asks, .str u_.Fragment, cB u_.Points]]))), 1⟩ → (AThen (fun s' => ∃ s'' k', Weak 0 s' s'' ∧ k' < k + 1 ∧ (fun k s => ∃ (out : Tx), ∃ (v11 : Int), r4_AddressText_l0 u_ K0_ k out v11 = some o ∧ s = ⟨(upd (upd (upd (upd (upd e0 1 (some (.c (.ref 0 8 0 0)))) 3 (some (S out))) 9 (some (.c (.ro false 1 (u_.Path.map eStr))))) 10 (some (I (u_.Path.length : Int)))) 11 (some (I v11))), (upd e0 0 (some (.cells 8 [[.str u_.Scheme, .str u_.Host, cI u_.Port, .ro false 1 (u_.Path.map eStr), .str u_.Query, cB u_.Asks, .str u_.Fragment, cB u_.Points]]))), 1⟩) k' s'') Q) .normal s := fun out v11 h s hw => ⟨_, k, hw, Nat.lt_succ_self k, out, v11, h, rfl⟩
 refine ssr <| un1 (v := (B (decide (v11 < (u_.Path.length : Int))))) rfl <| dnil <| Sv.seq ?_
 refine Sv.cond (b := decide (v11 < (u_.Path.length : Int))) rfl (fun hc1 => ?_) (fun hc1 => ?_)
 ·replace h := ifT hc1 h
  refine Sv.skip <| Sv.seq <| Sv.block <| ssr ?_
  obtain ⟨x_, hx1, h⟩ := bnd h
  refine un1 (v := (.c (.rop [.str x_]))) (s_iaddr (e := eStr) (xs := u_.Path) rfl rfl hx1) <| un1 (v := (S x_)) rfl <| un1 rfl <| dnil <| srg <| un1 rfl <| un1 rfl ?_
  obtain ⟨r_1, hr2, h⟩ := bnd h
  refine un <| ac_pure (r4_Encoded_ok hr2) rfl rfl rfl ?_
  obtain ⟨r_2, hx2, h⟩ := bnd h
  refine un1 (v := (S r_2)) (s_cat rfl rfl hx2) ?_
  obtain ⟨r_3, hx3, h⟩ := bnd h
  refine un1 (v := (S r_3)) (s_cat rfl rfl hx3) <| un1 rfl <| dnil <| srg <| un1 (v := (I (wi (v11 + 1)))) rfl <| un1 rfl <| dnil ?_
  exact hself r_3 (wi (v11 + 1)) h _ (wcn [0] rfl (.cf rfl rfl (.cf rfl rfl (.cf rfl rfl (.cf rfl rfl (.cons rfl (.c (.ref rfl (by decide))) .nil))))) (.box (by decide) rfl (blkAs_cells (.sm rfl (.sm rfl (.sm rfl (.sm rfl (.sm rfl (.sm rfl (.sm rfl (.sm rfl .nil))))))))) .nil))
 ·replace h := ifF hc1 h
  refine Sv.exit ?_
  exact hK0 out h _ (wcn [0] rfl (.cf rfl rfl (.cons rfl (.c (.ref rfl (by decide))) .nil)) (.box (by decide) rfl (blkAs_cells (.sm rfl (.sm rfl (.sm rfl (.sm rfl (.sm rfl (.sm rfl (.sm rfl (.sm rfl .nil))))))))) .nil))
noncomputable def r4_AddressText_j2 (out3 : Tx) : Option Tx :=
 some out3
theorem r4_AddressText_j2_ok {mL : Int} {out3 : Tx} {o : Tx} (h : r4_AddressText_j2 out3 = some o) :
  Sv Tryz.prog (GG mL) 0 a14_c2 (Ends a14.results 0 (r4_AddressText_post o)) ⟨(upd e0 3 (some (S out3))), e0, 0⟩ := by
 unfold r4_AddressText_j2 at h
 refine ssr <| un1 rfl <| un1 rfl <| dnil <| Sv.ret ?_
 replace h := Option.some.inj h
 subst h
 exact ⟨_, .refl _, _, rfl, ⟨upd e0 0 (some (S out3)), e0, 0⟩, (S out3), weak_canon [] rfl List.nodup_nil (Nat.le_refl _) nlz (.cf rfl rfl .nil) .nil, rfl, rfl, rfl, rfl⟩
noncomputable def r4_AddressText_j1 (u_ : TJUrl) (out2 : Tx) : Option Tx :=
 if u_.Points then
  (cat? [35] u_.Fragment).bind fun r_4 =>
  (cat? out2 r_4).bind fun r_5 =>
  r4_AddressText_j2 r_5
 else
  r4_AddressText_j2 out2
theorem r4_AddressText_j1_ok {mL : Int} {u_ : TJUrl} {out2 : Tx} {o : Tx} (h : r4_AddressText_j1 u_ out2 = some o) :
  Sv Tryz.prog (GG mL) 0 a14_c1 (Ends a14.results 0 (r4_AddressText_post o)) ⟨(upd (upd e0 1 (some (.c (.ref 0 8 0 0)))) 3 (some (S out2))), (upd e0 0 (some (.cells 8 [[.str u_.Scheme, .str u_.Host, cI u_.Port, .ro false 1 (u_.Path.map eStr), .str u_.Query, cB u_.Asks, .str u_.Fragment, cB u_.Points]]))), 1⟩ := by
 unfold r4_AddressText_j1 at h
 refine Sv.seq <| ssr <| un1 (v := (.c (.ref 0 8 0 7))) rfl <| un1 (v := (B u_.Points)) rfl <| dnil ?_
 refine Sv.cond (b := u_.Points) rfl (fun hc2 => ?_) (fun hc2 => ?_)
 ·replace h := ifT hc2 h
  refine srg <| un1 rfl <| un1 (v := (.c (.ref 0 8 0 6))) rfl <| un1 (v := (S u_.Fragment)) rfl ?_
  obtain ⟨r_4, hx4, h⟩ := bnd h
  refine un1 (v := (S r_4)) (s_cat rfl rfl hx4) ?_
  obtain ⟨r_5, hx5, h⟩ := bnd h
  refine un1 (v := (S r_5)) (s_cat rfl rfl hx5) <| un1 rfl <| dnil ?_
  exact Sv.weak (wcn [] rfl (.cf rfl rfl .nil) .nil) (r4_AddressText_j2_ok h)
 ·replace h := ifF hc2 h
  refine Sv.skip ?_
  exact Sv.weak (wcn [] rfl (.cf rfl rfl .nil) .nil) (r4_AddressText_j2_ok h)
/-- clerestory/clerestoryref4.AddressText -/
noncomputable def r4_AddressText (u_ : TJUrl) : Option Tx :=
 (r4_OriginOf u_).bind fun r_ =>
 lim fun kk => r4_AddressText_l0 u_ (fun (out1 : Tx) => 
   if u_.Asks then
    (cat? [63] u_.Query).bind fun r_6 =>
    (cat? out1 r_6).bind fun r_7 =>
    r4_AddressText_j1 u_ r_7
   else
    r4_AddressText_j1 u_ out1) kk r_ 0
theorem r4_AddressText_ok {mL : Int} {u_ : TJUrl} {r : Tx} (h : r4_AddressText u_ = some r) : CPure Tryz.prog (GG mL) 14 [(.agg [.str u_.Scheme, .str u_.Host, cI u_.Port, .ro false 1 (u_.Path.map eStr), .str u_.Query, cB u_.Asks, .str u_.Fragment, cB u_.Points])] (S r) := by
 refine acalls_of_sv hmix c14 (R := r4_AddressText_post r) ?_
 unfold r4_AddressText at h
 refine ssr <| un <| a2v (v := (.c (.ref 0 8 0 0))) (h' := upd _ 0 (some (.cells 8 [[.str u_.Scheme, .str u_.Host, cI u_.Port, .ro false 1 (u_.Path.map eStr), .str u_.Query, cB u_.Asks, .str u_.Fragment, cB u_.Points]]))) (n' := 1) rfl rfl (fun h => by cases h) <| un1 rfl <| dnil <| ssr <| un1 (v := (.agg [.str u_.Scheme, .str u_.Host, cI u_.Port, .ro false 1 (u_.Path.map eStr), .str u_.Query, cB u_.Asks, .str u_.Fragment, cB u_.Points])) rfl ?_
 obtain ⟨r_, hr1, h⟩ := bnd h
 refine un <| ac_pure (r4_OriginOf_ok hr1) rfl rfl rfl <| un1 rfl <| dnil <| Sv.seq <| ssr <| un1 (v := (.c (.ref 0 8 0 3))) rfl <| un1 (v := (.c (.ro false 1 (u_.Path.map eStr)))) rfl <| un1 (v := (I (u_.Path.length : Int))) (s_len (e := eStr) (xs := u_.Path) rfl) <| un1 rfl <| dnil <| Sv.block ?_
 obtain ⟨kk, h⟩ := lim_some h
 refine Sv.weak (wcn [0] rfl (.cf rfl rfl (.cf rfl rfl (.cf rfl rfl (.cf rfl rfl (.cons rfl (.c (.ref rfl (by decide))) .nil))))) (.box (by decide) rfl (blkAs_cells (.sm rfl (.sm rfl (.sm rfl (.sm rfl (.sm rfl (.sm rfl (.sm rfl (.sm rfl .nil))))))))) .nil)) (r4_AddressText_l0_ok h ?_ (fun s hs => hs))
 ·intro out1 h _ hw1
  refine Sv.weak hw1 <| Sv.seq <| ssr <| un1 (v := (.c (.ref 0 8 0 5))) rfl <| un1 (v := (B u_.Asks)) rfl <| dnil ?_
  refine Sv.cond (b := u_.Asks) rfl (fun hc3 => ?_) (fun hc3 => ?_)
  ·replace h := ifT hc3 h
   refine srg <| un1 rfl <| un1 (v := (.c (.ref 0 8 0 4))) rfl <| un1 (v := (S u_.Query)) rfl ?_
   obtain ⟨r_6, hx6, h⟩ := bnd h
   refine un1 (v := (S r_6)) (s_cat rfl rfl hx6) ?_
   obtain ⟨r_7, hx7, h⟩ := bnd h
   refine un1 (v := (S r_7)) (s_cat rfl rfl hx7) <| un1 rfl <| dnil ?_
   exact Sv.weak (wcn [0] rfl (.cf rfl rfl (.cons rfl (.c (.ref rfl (by decide))) .nil)) (.box (by decide) rfl (blkAs_cells (.sm rfl (.sm rfl (.sm rfl (.sm rfl (.sm rfl (.sm rfl (.sm rfl (.sm rfl .nil))))))))) .nil)) (r4_AddressText_j1_ok h)
  ·replace h := ifF hc3 h
   refine Sv.skip ?_
   exact Sv.weak (wcn [0] rfl (.cf rfl rfl (.cons rfl (.c (.ref rfl (by decide))) .nil)) (.box (by decide) rfl (blkAs_cells (.sm rfl (.sm rfl (.sm rfl (.sm rfl (.sm rfl (.sm rfl (.sm rfl (.sm rfl .nil))))))))) .nil)) (r4_AddressText_j1_ok h)
noncomputable abbrev strings_Index (s_ : Tx) (substr_ : Tx) : Option Int := index? s_ substr_
/-- strings.Index, by the contract of the shelf -/
theorem strings_Index_ok {mL : Int} {s_ : Tx} {substr_ : Tx} {r : Int} (h : strings_Index s_ substr_ = some r) : CPure Tryz.prog (GG mL) 58 [(S s_), (S substr_)] (I r) := index_ok (m := mL) Tryz.lays143 rfl h
def a32 : AFunc := ⟨3, [(.tmp 6)], (.seq (.region [⟨(some 6), (.mov (.const (.c (.val (.bool false))))), none⟩])
 (.seq (.region [(mV 7 1), (mV 8 0), (oP 9 (.bin .leq (.tmp 7) (.tmp 8))), (mV 10 9), ⟨(some 11), (.mov (.tmp 0)), (some (10, true))⟩, ⟨(some 12), (.mov (.tmp 2)), (some (10, true))⟩, ⟨(some 13), (.bin .leq (.tmp 11) (.tmp 12)), (some (10, true))⟩, ⟨(some 14), (.pick (.tmp 10) (.tmp 13) (.const (.c (.val (.bool false))))), none⟩, (mV 6 14)])
 .ret))⟩
set_option maxRecDepth 100000 in
theorem c32 : compFunc Tryz.prog 32 = some a32 := by kernel_rfl
def r4_Between_post (r : Bool) : AV → Heap → Nat → Prop := fun v h' n' => v = (B r) ∧ (h' = e0) ∧ n' = 0
/-- clerestory/clerestoryref4.Between -/
def r4_Between (n_ : Int) (low : Int) (high : Int) : Bool :=
 ((decide (low ≤ n_)) && (decide (n_ ≤ high)))
theorem r4_Between_ok {mL : Int} (n_ : Int) (low : Int) (high : Int) : CPure Tryz.prog (GG mL) 32 [(I n_), (I low), (I high)] (B (r4_Between n_ low high)) := by
 generalize h : r4_Between n_ low high = o
 refine acalls_of_sv hmix c32 (R := r4_Between_post o) ?_
 unfold r4_Between at h
 refine ssr <| un1 rfl <| dnil <| ssr <| un1 rfl <| un1 rfl <| un1 (v := (B (decide (low ≤ n_)))) rfl <| un1 rfl ?_
 refine gjoin 4 (d := 14) (v := (B ((decide (low ≤ n_)) && (decide (n_ ≤ high))))) (fun X hX => ?_) ?_
 ·refine split2 (fun hc1 => ?_) (fun hc1 => ?_)
  ·refine gt rfl <| a1 rfl <| gt rfl <| a1 rfl <| gt rfl <| a1 (v := (B (decide (n_ ≤ high)))) rfl <| un1 (v := (B (decide (n_ ≤ high)))) rfl <| dnil ?_
   exact hX _ (.putEq (by rw [hc1]; rfl) (.skip _ _ (.skip _ _ (.skip _ _ (.putEq (by rw [hc1]) (.refl _)) rfl) rfl) rfl))
  ·refine gs rfl rfl <| gs rfl rfl <| gs rfl rfl <| un1 (v := (B false)) rfl <| dnil ?_
   exact hX _ (.putEq (by rw [hc1]; rfl) (.skip _ _ (.skip _ _ (.skip _ _ (.putEq (by rw [hc1]) (.refl _)) rfl) rfl) rfl))
 refine un1 rfl <| dnil <| Sv.ret ?_
 subst h
 exact ⟨_, .refl _, _, rfl, ⟨upd e0 0 (some (B ((decide (low ≤ n_)) && (decide (n_ ≤ high))))), e0, 0⟩, (B ((decide (low ≤ n_)) && (decide (n_ ≤ high)))), weak_canon [] rfl List.nodup_nil (Nat.le_refl _) nlz (.cf rfl rfl .nil) .nil, rfl, rfl, rfl, rfl⟩
def a30_c0 : ACode := (.region [⟨(some 23), (.bin .add (.tmp 10) (kI 1)), none⟩, (mV 10 23)])
def a30_c1 : ACode := (.seq (.region [(oP 11 (.bin .lss (.tmp 10) (.tmp 9)))])
 (.seq (.cond (.tmp 11) .skip (.exit 0))
 (.seq (.block 1 (.seq (.region [(mV 12 10), (oP 13 (.iaddr 1 (.tmp 8) (.tmp 10))), (oP 14 (.load false 1 (.tmp 13))), (mV 4 12), (mV 5 14)])
 (.seq (.region [(mV 15 5), (oP 16 (.conv .i64 (.tmp 15))), ⟨(some 17), (.call 32 [(.tmp 16), (kI 65), (kI 90)]), none⟩])
 (.cond (.tmp 17) (.region [(mV 18 3), (mV 19 4), (mV 20 5), ⟨(some 21), (.bin .add (.tmp 20) (.const (.c (.val (.int .u8 32))))), none⟩, (oP 22 (.iaddr 1 (.tmp 18) (.tmp 19))), ⟨none, (.store 1 (.tmp 22) (.tmp 21)), none⟩]) .skip))))
 a30_c0)))
def a30 : AFunc := ⟨1, [(.tmp 2)], (.seq (.region [⟨(some 2), (.mov (.const (.c (.str [])))), none⟩])
 (.seq (.region [(mV 6 0), (oP 7 (.toBytes (.tmp 6))), (mV 3 7)])
 (.seq (.seq (.region [(mV 8 3), (oP 9 (.len (.tmp 8))), ⟨(some 10), (.mov (kI 0)), none⟩])
 (.block 0 (.loop a30_c1)))
 (.seq (.region [(mV 24 3), (oP 25 (.ofBytes (.tmp 24))), (mV 2 25)])
 .ret))))⟩
set_option maxRecDepth 100000 in
theorem c30 : compFunc Tryz.prog 30 = some a30 := by kernel_rfl
def r4_lower_post (r : Tx) : AV → Heap → Nat → Prop := fun v h' n' => v = (S r) ∧ (h' = e0) ∧ n' = 0
noncomputable def r4_lower_j3 (v9 : Int) (v10 : Int) (self : (List Int) → Int → Int → Option Tx) (K0_ : (List Int) → Option Tx) (b_2 : (List Int)) : Option Tx :=
 self b_2 v9 (wi (v10 + 1))
theorem r4_lower_j3_ok {mL : Int} {Q : AExit → St → Prop} {v9 : Int} {v10 : Int} {self : (List Int) → Int → Int → Option Tx} {K0_ : (List Int) → Option Tx} {b_2 : (List Int)} {zb_2 : Bool} (hzb_2 : zb_2 = true → b_2 = []) {o : Tx} (h : r4_lower_j3 v9 v10 self K0_ b_2 = some o)
  (hself : ∀ (b_ : (List Int)) (v9 : Int) (v10 : Int) (zb : Bool) (_ : zb = true → b_ = []), self b_ v9 v10 = some o → ∀ s, Weak 0 s ⟨(upd (upd (upd (upd e0 3 (some (lstV zb 0 1 b_.length))) 8 (some (lstV zb 0 1 b_.length))) 9 (some (I v9))) 10 (some (I v10))), (upd e0 0 (lstB zb 1 (b_.map (eK .u8)))), 1⟩ → (Q) .normal s)
  (hK0 : ∀ (b_1 : (List Int)) (zb_1 : Bool) (_ : zb_1 = true → b_1 = []), K0_ b_1 = some o → ∀ s, Weak 0 s ⟨(upd e0 3 (some (lstV zb_1 0 1 b_1.length))), (upd e0 0 (lstB zb_1 1 (b_1.map (eK .u8)))), 1⟩ → Q (.exit 0) s)
  (hr : ∀ s, Ends a30.results 0 (r4_lower_post o) .ret s → Q .ret s) :
  Sv Tryz.prog (GG mL) 0 a30_c0 Q ⟨(upd (upd (upd (upd e0 3 (some (lstV zb_2 0 1 b_2.length))) 8 (some (lstV zb_2 0 1 b_2.length))) 9 (some (I v9))) 10 (some (I v10))), (upd e0 0 (lstB zb_2 1 (b_2.map (eK .u8)))), 1⟩ := by
 unfold r4_lower_j3 at h
 refine srg <| un1 (v := (I (wi (v10 + 1)))) rfl <| un1 rfl <| dnil ?_
 exact hself b_2 v9 (wi (v10 + 1)) zb_2 hzb_2 h _ (wcn [0] rfl (.cf rfl rfl (.cf rfl rfl (.cons rfl (.c (lstC_ren rfl (by decide))) (.cons rfl (.c (lstC_ren rfl (by decide))) .nil)))) (.row (by decide) rfl (fr_map fun _ => rfl) .nil))
noncomputable def r4_lower_l0 (K0_ : (List Int) → Option Tx) : Nat → (List Int) → Int → Int → Option Tx
 | 0, _, _, _ => none
 | k + 1, b_, v9, v10 =>
  if decide (v10 < v9) then
   (at? b_ v10).bind fun x_ =>
   if (r4_Between (wr .i64 x_) 65 90) then
    (at? b_ v10).bind fun x_1 =>
    r4_lower_j3 v9 v10 (r4_lower_l0 K0_ k) K0_ (b_.set v10.toNat (wr .u8 (x_ + 32)))
   else
    r4_lower_j3 v9 v10 (r4_lower_l0 K0_ k) K0_ b_
  else
   K0_ b_
theorem r4_lower_l0_ok {mL : Int} {Q : AExit → St → Prop} {K0_ : (List Int) → Option Tx} {k : Nat} {b_ : (List Int)} {v9 : Int} {v10 : Int} {zb : Bool} (hzb : zb = true → b_ = []) {o : Tx} (h : r4_lower_l0 K0_ k b_ v9 v10 = some o)
  (hK0 : ∀ (b_1 : (List Int)) (zb_1 : Bool) (_ : zb_1 = true → b_1 = []), K0_ b_1 = some o → ∀ s, Weak 0 s ⟨(upd e0 3 (some (lstV zb_1 0 1 b_1.length))), (upd e0 0 (lstB zb_1 1 (b_1.map (eK .u8)))), 1⟩ → Q (.exit 0) s)
  (hr : ∀ s, Ends a30.results 0 (r4_lower_post o) .ret s → Q .ret s) :
  Sv Tryz.prog (GG mL) 0 (.loop a30_c1) Q ⟨(upd (upd (upd (upd e0 3 (some (lstV zb 0 1 b_.length))) 8 (some (lstV zb 0 1 b_.length))) 9 (some (I v9))) 10 (some (I v10))), (upd e0 0 (lstB zb 1 (b_.map (eK .u8)))), 1⟩ := by
 refine Sv.loop (I := fun k s => ∃ (b_ : (List Int)), ∃ (v9 : Int), ∃ (v10 : Int), ∃ (zb : Bool), (zb = true → b_ = []) ∧ r4_lower_l0 K0_ k b_ v9 v10 = some o ∧ s = ⟨(upd (upd (upd (upd e0 3 (some (lstV zb 0 1 b_.length))) 8 (some (lstV zb 0 1 b_.length))) 9 (some (I v9))) 10 (some (I v10))), (upd e0 0 (lstB zb 1 (b_.map (eK .u8)))), 1⟩) (fun k s hI => ?_) ⟨b_, v9, v10, zb, hzb, h, rfl⟩
 clear h
 clear hzb zb v10 v9 b_
 obtain ⟨b_, v9, v10, zb, hzb, h, rfl⟩ := hI
 cases k with
 | zero => cases h
 | succ k =>
 rw [r4_lower_l0] at h
 have hself : ∀ (b_ : (List Int)) (v9 : Int) (v10 : Int) (zb : Bool) (_ : zb = true → b_ = []), (r4_lower_l0 K0_ k) b_ v9 v10 = some o → ∀ s, Weak 0 s ⟨(upd (upd (upd (upd e0 3 (some (lstV zb 0 1 b_.length))) 8 (some (lstV zb 0 1 b_.length))) 9 (some (I v9))) 10 (some (I v10))), (upd e0 0 (lstB zb 1 (b_.map (eK .u8)))), 1⟩ → (AThen (fun s' => ∃ s'' k', Weak 0 s' s'' ∧ k' < k + 1 ∧ (fun k s => ∃ (b_ : (List Int)), ∃ (v9 : Int), ∃ (v10 : Int), ∃ (zb : Bool), (zb = true → b_ = []) ∧ r4_lower_l0 K0_ k b_ v9 v10 = some o ∧ s = ⟨(upd (upd (upd (upd e0 3 (some (lstV zb 0 1 b_.length))) 8 (some (lstV zb 0 1 b_.length))) 9 (some (I v9))) 10 (some (I v10))), (upd e0 0 (lstB zb 1 (b_.map (eK .u8)))), 1⟩) k' s'') Q) .normal s := fun b_ v9 v10 zb hzb h s hw => ⟨_, k, hw, Nat.lt_succ_self k, b_, v9, v10, zb, hzb, h, rfl⟩
 refine ssr <| un1 (v := (B (decide (v10 < v9)))) rfl <| dnil <| Sv.seq ?_
 refine Sv.cond (b := decide (v10 < v9)) rfl (fun hc1 => ?_) (fun hc1 => ?_)
 ·replace h := ifT hc1 h
  refine Sv.skip <| Sv.seq <| Sv.block <| ssr <| un1 rfl ?_
  obtain ⟨x_, hx1, h⟩ := bnd h
  refine un1 (v := (.c (.ref 0 1 v10.toNat 0))) (s_iaddrL rfl rfl hzb hx1) <| un1 (v := (.c (.val (.int .u8 x_)))) (s_loadL (z := zb) (e := (eK .u8)) rfl rfl hzb hx1 rfl rfl) <| un1 rfl <| un1 rfl <| dnil <| ssr <| un1 rfl <| un1 (v := (I (wr .i64 x_))) rfl <| un <| ac_pure (r4_Between_ok (mL := mL) (wr .i64 x_) 65 90) rfl rfl rfl <| dnil ?_
  refine Sv.cond (b := (r4_Between (wr .i64 x_) 65 90)) rfl (fun hc2 => ?_) (fun hc2 => ?_)
  ·replace h := ifT hc2 h
   refine srg <| un1 rfl <| un1 rfl <| un1 rfl <| un1 (v := (.c (.val (.int .u8 (wr .u8 (x_ + 32)))))) rfl ?_
   obtain ⟨x_1, hx2, h⟩ := bnd h
   refine un1 (v := (.c (.ref 0 1 v10.toNat 0))) (s_iaddrL rfl rfl hzb hx2) <| un <| a2n (h' := upd _ 0 (lstB zb 1 ((b_.set v10.toNat (wr .u8 (x_ + 32))).map (eK .u8)))) (n' := 1) rfl (s_storeL (e := (eK .u8)) (q' := (wr .u8 (x_ + 32))) rfl rfl hzb hx2 rfl rfl rfl (Nat.le_of_ble_eq_true rfl) rfl) (fun h => by cases h) ?_
   try rw [len_set b_ v10.toNat (wr .u8 (x_ + 32))]
   refine dnil ?_
   exact Sv.weak (wcn [0] rfl (.cf rfl rfl (.cf rfl rfl (.cons rfl (.c (lstC_ren rfl (by decide))) (.cons rfl (.c (lstC_ren rfl (by decide))) .nil)))) (.row (by decide) rfl (fr_map fun _ => rfl) .nil)) (r4_lower_j3_ok (hz_len hzb (len_set b_ v10.toNat (wr .u8 (x_ + 32)))) h hself hK0 hr)
  ·replace h := ifF hc2 h
   refine Sv.skip ?_
   exact Sv.weak (wcn [0] rfl (.cf rfl rfl (.cf rfl rfl (.cons rfl (.c (lstC_ren rfl (by decide))) (.cons rfl (.c (lstC_ren rfl (by decide))) .nil)))) (.row (by decide) rfl (fr_map fun _ => rfl) .nil)) (r4_lower_j3_ok hzb h hself hK0 hr)
 ·replace h := ifF hc1 h
  refine Sv.exit ?_
  exact hK0 b_ zb hzb h _ (wcn [0] rfl (.cons rfl (.c (lstC_ren rfl (by decide))) .nil) (.row (by decide) rfl (fr_map fun _ => rfl) .nil))
/-- clerestory/clerestoryref4.lower -/
noncomputable def r4_lower (s_ : Tx) : Option Tx :=
 lim fun kk => r4_lower_l0 (fun (b_1 : (List Int)) => 
   some (byts b_1)) kk (ints s_) ((ints s_).length : Int) 0
theorem r4_lower_ok {mL : Int} {s_ : Tx} {r : Tx} (h : r4_lower s_ = some r) : CPure Tryz.prog (GG mL) 30 [(S s_)] (S r) := by
 refine acalls_of_sv hmix c30 (R := r4_lower_post r) ?_
 unfold r4_lower at h
 refine ssr <| un1 rfl <| dnil <| ssr <| un1 rfl <| un <| a2v (v := (lstV false 0 1 (ints s_).length)) (h' := upd _ 0 (lstB false 1 ((ints s_).map (eK .u8)))) (n' := 1) rfl (s_toBytes rfl) (fun h => by cases h) <| un1 rfl <| dnil <| Sv.seq <| ssr <| un1 rfl <| un1 (v := (I ((ints s_).length : Int))) (s_lenL rfl (len_nil_of (fun h => by cases h))) <| un1 rfl <| dnil <| Sv.block ?_
 obtain ⟨kk, h⟩ := lim_some h
 refine Sv.weak (wcn [0] rfl (.cf rfl rfl (.cf rfl rfl (.cons rfl (.c (lstC_ren rfl (by decide))) (.cons rfl (.c (lstC_ren rfl (by decide))) .nil)))) (.row (by decide) rfl (fr_map fun _ => rfl) .nil)) (r4_lower_l0_ok (fun h => by cases h) h ?_ (fun s hs => hs))
 ·intro b_1 zb_1 hzb_1 h _ hw1
  refine Sv.weak hw1 <| ssr <| un1 rfl <| un1 (v := (S (byts b_1))) (s_ofBytes (xs := b_1) rfl (slc_lst rfl (List.length_map _).symm (map_nil_of hzb_1))) <| un1 rfl <| dnil <| Sv.ret ?_
  replace h := Option.some.inj h
  subst h
  exact ⟨_, .refl _, _, rfl, ⟨upd e0 0 (some (S (byts b_1))), e0, 0⟩, (S (byts b_1)), weak_canon [] rfl List.nodup_nil (Nat.le_refl _) nlz (.cf rfl rfl .nil) .nil, rfl, rfl, rfl, rfl⟩
def a27_c0 : ACode := (.seq (.region [(oP 20 (.bin .lss (.tmp 19) (.tmp 18)))])
 (.seq (.cond (.tmp 20) .skip (.exit 0))
 (.seq (.block 1 (.seq (.region [(mV 21 19), (oP 22 (.iaddr 1 (.tmp 17) (.tmp 19))), (oP 23 (.load false 1 (.tmp 22))), (mV 6 21), (mV 7 23)])
 (.seq (.region [(mV 24 7), (oP 25 (.conv .i64 (.tmp 24))), ⟨(some 26), (.call 32 [(.tmp 25), (kI 97), (kI 122)]), none⟩, (oP 27 (.un .not (.tmp 26))), (mV 28 27), ⟨(some 29), (.mov (.tmp 6)), (some (28, true))⟩, ⟨(some 30), (.bin .eql (.tmp 29) (kI 0)), (some (28, true))⟩, ⟨(some 31), (.mov (.tmp 30)), (some (28, true))⟩, ⟨(some 32), (.mov (.tmp 7)), (some (31, false))⟩, ⟨(some 33), (.conv .i64 (.tmp 32)), (some (31, false))⟩, ⟨(some 34), (.call 32 [(.tmp 33), (kI 48), (kI 57)]), (some (31, false))⟩, ⟨(some 35), (.un .not (.tmp 34)), (some (31, false))⟩, ⟨(some 36), (.mov (.tmp 35)), (some (31, false))⟩, ⟨(some 37), (.mov (.tmp 7)), (some (36, true))⟩, ⟨(some 38), (.bin .neq (.tmp 37) (.const (.c (.val (.int .u8 43))))), (some (36, true))⟩, ⟨(some 39), (.pick (.tmp 36) (.tmp 38) (.const (.c (.val (.bool false))))), (some (31, false))⟩, ⟨(some 40), (.mov (.tmp 39)), (some (31, false))⟩, ⟨(some 41), (.mov (.tmp 7)), (some (40, true))⟩, ⟨(some 42), (.bin .neq (.tmp 41) (.const (.c (.val (.int .u8 45))))), (some (40, true))⟩, ⟨(some 43), (.pick (.tmp 40) (.tmp 42) (.const (.c (.val (.bool false))))), (some (31, false))⟩, ⟨(some 44), (.mov (.tmp 43)), (some (31, false))⟩, ⟨(some 45), (.mov (.tmp 7)), (some (44, true))⟩, ⟨(some 46), (.bin .neq (.tmp 45) (.const (.c (.val (.int .u8 46))))), (some (44, true))⟩, ⟨(some 47), (.pick (.tmp 44) (.tmp 46) (.const (.c (.val (.bool false))))), (some (31, false))⟩, ⟨(some 48), (.pick (.tmp 31) (.const (.c (.val (.bool true)))) (.tmp 47)), (some (28, true))⟩, ⟨(some 49), (.pick (.tmp 28) (.tmp 48) (.const (.c (.val (.bool false))))), none⟩])
 (.cond (.tmp 49) (.seq (.region [⟨(some 2), (.mov (.const (.c (.str [])))), none⟩, ⟨(some 3), (.mov (.const (.c (.val (.bool false))))), none⟩])
 .ret) .skip))))
 (.region [⟨(some 50), (.bin .add (.tmp 19) (kI 1)), none⟩, (mV 19 50)]))))
def a27 : AFunc := ⟨1, [(.tmp 2), (.tmp 3)], (.seq (.region [⟨(some 2), (.mov (.const (.c (.str [])))), none⟩, ⟨(some 3), (.mov (.const (.c (.val (.bool false))))), none⟩])
 (.seq (.region [(mV 8 0), ⟨(some 9), (.call 58 [(.tmp 8), (.const (.c (.str [58])))]), none⟩, (mV 4 9)])
 (.seq (.seq (.region [(mV 10 4), ⟨(some 11), (.bin .lss (.tmp 10) (kI 1)), none⟩])
 (.cond (.tmp 11) (.seq (.region [⟨(some 2), (.mov (.const (.c (.str [])))), none⟩, ⟨(some 3), (.mov (.const (.c (.val (.bool false))))), none⟩])
 .ret) .skip))
 (.seq (.region [(mV 12 0), (mV 13 4), (oP 14 (.slStr (.tmp 12) none (some (.tmp 13)))), (oP 15 (.call 30 [(.tmp 14)])), (mV 5 15)])
 (.seq (.seq (.region [(mV 16 5), (oP 17 (.toBytes (.tmp 16))), (oP 18 (.len (.tmp 17))), ⟨(some 19), (.mov (kI 0)), none⟩])
 (.block 0 (.loop a27_c0)))
 (.seq (.region [(mV 51 5), (mV 2 51), ⟨(some 3), (.mov (.const (.c (.val (.bool true))))), none⟩])
 .ret))))))⟩
set_option maxRecDepth 100000 in
theorem c27 : compFunc Tryz.prog 27 = some a27 := by kernel_rfl
def r4_SchemeOf_post (r : (Tx × Bool)) : AV → Heap → Nat → Prop := fun v h' n' => v = (.tup [(S r.1), (B r.2)]) ∧ (h' = e0) ∧ n' = 0
noncomputable def r4_SchemeOf_l0 (r_2 : Tx) (K0_ : Unit → Option (Tx × Bool)) : Nat → Int → Option (Tx × Bool)
 | 0, _ => none
 | k + 1, v19 =>
  if decide (v19 < ((ints r_2).length : Int)) then
   (at? (ints r_2) v19).bind fun x_ =>
   if ((!(r4_Between (wr .i64 x_) 97 122)) && ((decide (v19 = 0)) || ((((!(r4_Between (wr .i64 x_) 48 57)) && (!decide (x_ = 43))) && (!decide (x_ = 45))) && (!decide (x_ = 46))))) then
    some ([], false)
   else
    (r4_SchemeOf_l0 r_2 K0_ k) (wi (v19 + 1))
  else
   K0_ ()
theorem r4_SchemeOf_l0_ok {mL : Int} {Q : AExit → St → Prop} {r_2 : Tx} {K0_ : Unit → Option (Tx × Bool)} {k : Nat} {v19 : Int} {o : (Tx × Bool)} (h : r4_SchemeOf_l0 r_2 K0_ k v19 = some o)
  (hK0 : ∀ (_ : Unit), K0_ () = some o → ∀ s, Weak 0 s ⟨(upd e0 5 (some (S r_2))), e0, 0⟩ → Q (.exit 0) s)
  (hr : ∀ s, Ends a27.results 0 (r4_SchemeOf_post o) .ret s → Q .ret s) :
  Sv Tryz.prog (GG mL) 0 (.loop a27_c0) Q ⟨(upd (upd (upd (upd e0 5 (some (S r_2))) 17 (some (lstV false 0 1 (ints r_2).length))) 18 (some (I ((ints r_2).length : Int)))) 19 (some (I v19))), (upd e0 0 (lstB false 1 ((ints r_2).map (eK .u8)))), 1⟩ := by
 refine Sv.loop (I := fun k s => ∃ (v19 : Int), r4_SchemeOf_l0 r_2 K0_ k v19 = some o ∧ s = ⟨(upd (upd (upd (upd e0 5 (some (S r_2))) 17 (some (lstV false 0 1 (ints r_2).length))) 18 (some (I ((ints r_2).length : Int)))) 19 (some (I v19))), (upd e0 0 (lstB false 1 ((ints r_2).map (eK .u8)))), 1⟩) (fun k s hI => ?_) ⟨v19, h, rfl⟩
 clear h
 clear v19
 obtain ⟨v19, h, rfl⟩ := hI
 cases k with
 | zero => cases h
 | succ k =>
 rw [r4_SchemeOf_l0] at h
 have hself : ∀ (v19 : Int), (r4_SchemeOf_l0 r_2 K0_ k) v19 = some o → ∀ s, Weak 0 s ⟨(upd (upd (upd (upd e0 5 (some (S r_2))) 17 (some (lstV false 0 1 (ints r_2).length))) 18 (some (I ((ints r_2).length : Int)))) 19 (some (I v19))), (upd e0 0 (lstB false 1 ((ints r_2).map (eK .u8)))), 1⟩ → (AThen (fun s' => ∃ s'' k', Weak 0 s' s'' ∧ k' < k + 1 ∧ (fun k s => ∃ (v19 : Int), r4_SchemeOf_l0 r_2 K0_ k v19 = some o ∧ s = ⟨(upd (upd (upd (upd e0 5 (some (S r_2))) 17 (some (lstV false 0 1 (ints r_2).length))) 18 (some (I ((ints r_2).length : Int)))) 19 (some (I v19))), (upd e0 0 (lstB false 1 ((ints r_2).map (eK .u8)))), 1⟩) k' s'') Q) .normal s := fun v19 h s hw => ⟨_, k, hw, Nat.lt_succ_self k, v19, h, rfl⟩
 refine ssr <| un1 (v := (B (decide (v19 < ((ints r_2).length : Int))))) rfl <| dnil <| Sv.seq ?_
 refine Sv.cond (b := decide (v19 < ((ints r_2).length : Int))) rfl (fun hc2 => ?_) (fun hc2 => ?_)
 ·replace h := ifT hc2 h
  refine Sv.skip <| Sv.seq <| Sv.block <| ssr <| un1 rfl ?_
  obtain ⟨x_, hx2, h⟩ := bnd h
  refine un1 (v := (.c (.ref 0 1 v19.toNat 0))) (s_iaddrL rfl rfl (fun h => by cases h) hx2) <| un1 (v := (.c (.val (.int .u8 x_)))) (s_loadL (z := false) (e := (eK .u8)) rfl rfl (fun h => by cases h) hx2 rfl rfl) <| un1 rfl <| un1 rfl <| dnil <| ssr <| un1 rfl <| un1 (v := (I (wr .i64 x_))) rfl <| un <| ac_pure (r4_Between_ok (mL := mL) (wr .i64 x_) 97 122) rfl rfl rfl <| un1 (v := (B (!(r4_Between (wr .i64 x_) 97 122)))) rfl <| un1 rfl ?_
  refine gjoin 21 (d := 49) (v := (B ((!(r4_Between (wr .i64 x_) 97 122)) && ((decide (v19 = 0)) || ((((!(r4_Between (wr .i64 x_) 48 57)) && (!decide (x_ = 43))) && (!decide (x_ = 45))) && (!decide (x_ = 46))))))) (fun X hX => ?_) ?_
  ·refine split2 (fun hc7 => ?_) (fun hc7 => ?_)
   ·refine gt rfl <| a1 rfl <| gt rfl <| a1 (v := (B (decide (v19 = 0)))) rfl <| gt rfl <| a1 rfl ?_
    refine gjoin 17 (d := 48) (v := (B ((decide (v19 = 0)) || ((((!(r4_Between (wr .i64 x_) 48 57)) && (!decide (x_ = 43))) && (!decide (x_ = 45))) && (!decide (x_ = 46)))))) (fun X hX => ?_) ?_
    ·refine split2 (fun hc6 => ?_) (fun hc6 => ?_)
     ·refine gs rfl rfl <| gs rfl rfl <| gs rfl rfl <| gs rfl rfl <| gs rfl rfl <| gu rfl <| gu rfl <| gs rfl rfl <| gs rfl rfl <| gu rfl <| gu rfl <| gs rfl rfl <| gs rfl rfl <| gu rfl <| gu rfl <| gs rfl rfl <| gt rfl <| a1 (v := (B true)) rfl <| dnil ?_
      exact hX _ (.putEq (by rw [hc6]; rfl) (.skip _ _ (.skip _ _ (.skip _ _ (.skip _ _ (.skip _ _ (.skip _ _ (.skip _ _ (.skip _ _ (.skip _ _ (.skip _ _ (.skip _ _ (.skip _ _ (.skip _ _ (.skip _ _ (.skip _ _ (.skip _ _ (.putEq (by rw [hc6]) (.refl _)) rfl) rfl) rfl) rfl) rfl) rfl) rfl) rfl) rfl) rfl) rfl) rfl) rfl) rfl) rfl) rfl))
     ·refine gt rfl <| a1 rfl <| gt rfl <| a1 (v := (I (wr .i64 x_))) rfl <| gt rfl <| ac_pure (r4_Between_ok (mL := mL) (wr .i64 x_) 48 57) rfl rfl rfl <| gt rfl <| a1 (v := (B (!(r4_Between (wr .i64 x_) 48 57)))) rfl <| gt rfl <| a1 rfl ?_
      refine gjoin 3 (d := 39) (v := (B ((!(r4_Between (wr .i64 x_) 48 57)) && (!decide (x_ = 43))))) (fun X hX => ?_) ?_
      ·refine split2 (fun hc3 => ?_) (fun hc3 => ?_)
       ·refine gt rfl <| a1 rfl <| gt rfl <| a1 (v := (B (!decide (x_ = 43)))) rfl <| gt rfl <| a1 (v := (B (!decide (x_ = 43)))) rfl <| dnil ?_
        exact hX _ (.putEq (by rw [hc3]; rfl) (.skip _ _ (.skip _ _ (.putEq (by rw [hc3]) (.refl _)) rfl) rfl))
       ·refine gs rfl rfl <| gs rfl rfl <| gt rfl <| a1 (v := (B false)) rfl <| dnil ?_
        exact hX _ (.putEq (by rw [hc3]; rfl) (.skip _ _ (.skip _ _ (.putEq (by rw [hc3]) (.refl _)) rfl) rfl))
      refine gt rfl <| a1 rfl ?_
      refine gjoin 3 (d := 43) (v := (B (((!(r4_Between (wr .i64 x_) 48 57)) && (!decide (x_ = 43))) && (!decide (x_ = 45))))) (fun X hX => ?_) ?_
      ·refine split2 (fun hc4 => ?_) (fun hc4 => ?_)
       ·refine gt rfl <| a1 rfl <| gt rfl <| a1 (v := (B (!decide (x_ = 45)))) rfl <| gt rfl <| a1 (v := (B (!decide (x_ = 45)))) rfl <| dnil ?_
        exact hX _ (.putEq (by rw [hc4]; rfl) (.skip _ _ (.skip _ _ (.putEq (by rw [hc4]) (.refl _)) rfl) rfl))
       ·refine gs rfl rfl <| gs rfl rfl <| gt rfl <| a1 (v := (B false)) rfl <| dnil ?_
        exact hX _ (.putEq (by rw [hc4]; rfl) (.skip _ _ (.skip _ _ (.putEq (by rw [hc4]) (.refl _)) rfl) rfl))
      refine gt rfl <| a1 rfl ?_
      refine gjoin 3 (d := 47) (v := (B ((((!(r4_Between (wr .i64 x_) 48 57)) && (!decide (x_ = 43))) && (!decide (x_ = 45))) && (!decide (x_ = 46))))) (fun X hX => ?_) ?_
      ·refine split2 (fun hc5 => ?_) (fun hc5 => ?_)
       ·refine gt rfl <| a1 rfl <| gt rfl <| a1 (v := (B (!decide (x_ = 46)))) rfl <| gt rfl <| a1 (v := (B (!decide (x_ = 46)))) rfl <| dnil ?_
        exact hX _ (.putEq (by rw [hc5]; rfl) (.skip _ _ (.skip _ _ (.putEq (by rw [hc5]) (.refl _)) rfl) rfl))
       ·refine gs rfl rfl <| gs rfl rfl <| gt rfl <| a1 (v := (B false)) rfl <| dnil ?_
        exact hX _ (.putEq (by rw [hc5]; rfl) (.skip _ _ (.skip _ _ (.putEq (by rw [hc5]) (.refl _)) rfl) rfl))
      refine gt rfl <| a1 (v := (B ((((!(r4_Between (wr .i64 x_) 48 57)) && (!decide (x_ = 43))) && (!decide (x_ = 45))) && (!decide (x_ = 46))))) rfl <| dnil ?_
      exact hX _ (.putEq (by rw [hc6]; rfl) (.skip _ _ (.skip _ _ (.skip _ _ (.skip _ _ (.skip _ _ (.skip _ _ (.skip _ _ (.skip _ _ (.skip _ _ (.skip _ _ (.putEq (by rw [hc6]) (.refl _)) rfl) rfl) rfl) rfl) rfl) rfl) rfl) rfl) rfl) rfl))
    refine un1 (v := (B ((decide (v19 = 0)) || ((((!(r4_Between (wr .i64 x_) 48 57)) && (!decide (x_ = 43))) && (!decide (x_ = 45))) && (!decide (x_ = 46)))))) rfl <| dnil ?_
    exact hX _ (.putEq (by rw [hc7]; rfl) (.skip _ _ (.skip _ _ (.skip _ _ (.skip _ _ (.putEq (by rw [hc7]) (.refl _)) rfl) rfl) rfl) rfl))
   ·refine gs rfl rfl <| gs rfl rfl <| gs rfl rfl <| gu rfl <| gu rfl <| gu rfl <| gu rfl <| gu rfl <| gu rfl <| gu rfl <| gu rfl <| gu rfl <| gu rfl <| gu rfl <| gu rfl <| gu rfl <| gu rfl <| gu rfl <| gu rfl <| gs rfl rfl <| un1 (v := (B false)) rfl <| dnil ?_
    exact hX _ (.putEq (by rw [hc7]; rfl) (.skip _ _ (.skip _ _ (.skip _ _ (.skip _ _ (.skip _ _ (.skip _ _ (.skip _ _ (.skip _ _ (.skip _ _ (.skip _ _ (.skip _ _ (.skip _ _ (.skip _ _ (.skip _ _ (.skip _ _ (.skip _ _ (.skip _ _ (.skip _ _ (.skip _ _ (.skip _ _ (.putEq (by rw [hc7]) (.refl _)) rfl) rfl) rfl) rfl) rfl) rfl) rfl) rfl) rfl) rfl) rfl) rfl) rfl) rfl) rfl) rfl) rfl) rfl) rfl) rfl))
  refine dnil ?_
  refine Sv.cond (b := ((!(r4_Between (wr .i64 x_) 97 122)) && ((decide (v19 = 0)) || ((((!(r4_Between (wr .i64 x_) 48 57)) && (!decide (x_ = 43))) && (!decide (x_ = 45))) && (!decide (x_ = 46)))))) rfl (fun hc8 => ?_) (fun hc8 => ?_)
  ·replace h := ifT hc8 h
   refine ssr <| un1 rfl <| un1 rfl <| dnil <| Sv.ret ?_
   replace h := Option.some.inj h
   subst h
   exact hr _ ⟨_, .refl _, _, rfl, ⟨upd e0 0 (some (.tup [(S []), (B false)])), e0, 0⟩, (.tup [(S []), (B false)]), weak_canon [] rfl List.nodup_nil (Nat.le_refl _) nlz (.cons rfl (avAs_tup (.cons (avAs_free rfl) (.cons (avAs_free rfl) .nil))) .nil) .nil, rfl, rfl, rfl, rfl⟩
  ·replace h := ifF hc8 h
   refine Sv.skip <| srg <| un1 (v := (I (wi (v19 + 1)))) rfl <| un1 rfl <| dnil ?_
   exact hself (wi (v19 + 1)) h _ (wcn [0] rfl (.cf rfl rfl (.cf rfl rfl (.cons rfl (.c (lstC_ren rfl (by decide))) (.cf rfl rfl .nil)))) (.row (by decide) rfl (fr_map fun _ => rfl) .nil))
 ·replace h := ifF hc2 h
  refine Sv.exit ?_
  exact hK0 () h _ (wcn [] rfl (.cf rfl rfl .nil) .nil)
/-- clerestory/clerestoryref4.SchemeOf -/
noncomputable def r4_SchemeOf (s_ : Tx) : Option (Tx × Bool) :=
 (strings_Index s_ [58]).bind fun r_ =>
 if decide (r_ < 1) then
  some ([], false)
 else
  (sub? s_ 0 r_).bind fun r_1 =>
  (r4_lower r_1).bind fun r_2 =>
  lim fun kk => r4_SchemeOf_l0 r_2 (fun (_ : Unit) => 
    some (r_2, true)) kk 0
theorem r4_SchemeOf_ok {mL : Int} {s_ : Tx} {r : (Tx × Bool)} (h : r4_SchemeOf s_ = some r) : CPure Tryz.prog (GG mL) 27 [(S s_)] (.tup [(S r.1), (B r.2)]) := by
 refine acalls_of_sv hmix c27 (R := r4_SchemeOf_post r) ?_
 unfold r4_SchemeOf at h
 refine ssr <| un1 rfl <| un1 rfl <| dnil <| ssr <| un1 rfl ?_
 obtain ⟨r_, hr1, h⟩ := bnd h
 refine un <| ac_pure (strings_Index_ok hr1) rfl rfl rfl <| un1 rfl <| dnil <| Sv.seq <| ssr <| un1 rfl <| un1 (v := (B (decide (r_ < 1)))) rfl <| dnil ?_
 refine Sv.cond (b := decide (r_ < 1)) rfl (fun hc1 => ?_) (fun hc1 => ?_)
 ·replace h := ifT hc1 h
  refine ssr <| un1 rfl <| un1 rfl <| dnil <| Sv.ret ?_
  replace h := Option.some.inj h
  subst h
  exact ⟨_, .refl _, _, rfl, ⟨upd e0 0 (some (.tup [(S []), (B false)])), e0, 0⟩, (.tup [(S []), (B false)]), weak_canon [] rfl List.nodup_nil (Nat.le_refl _) nlz (.cons rfl (avAs_tup (.cons (avAs_free rfl) (.cons (avAs_free rfl) .nil))) .nil) .nil, rfl, rfl, rfl, rfl⟩
 ·replace h := ifF hc1 h
  refine Sv.skip <| ssr <| un1 rfl <| un1 rfl ?_
  obtain ⟨r_1, hx1, h⟩ := bnd h
  refine un1 (v := (S r_1)) (s_slStr rfl rfl rfl hx1) ?_
  obtain ⟨r_2, hr2, h⟩ := bnd h
  refine un <| ac_pure (r4_lower_ok hr2) rfl rfl rfl <| un1 rfl <| dnil <| Sv.seq <| ssr <| un1 rfl <| un <| a2v (v := (lstV false 0 1 (ints r_2).length)) (h' := upd _ 0 (lstB false 1 ((ints r_2).map (eK .u8)))) (n' := 1) rfl (s_toBytes rfl) (fun h => by cases h) <| un1 (v := (I ((ints r_2).length : Int))) (s_lenL rfl (len_nil_of (fun h => by cases h))) <| un1 rfl <| dnil <| Sv.block ?_
  obtain ⟨kk, h⟩ := lim_some h
  refine Sv.weak (wcn [0] rfl (.cf rfl rfl (.cf rfl rfl (.cons rfl (.c (lstC_ren rfl (by decide))) (.cf rfl rfl .nil)))) (.row (by decide) rfl (fr_map fun _ => rfl) .nil)) (r4_SchemeOf_l0_ok h ?_ (fun s hs => hs))
  ·intro _ h _ hw1
   refine Sv.weak hw1 <| ssr <| un1 rfl <| un1 rfl <| un1 rfl <| dnil <| Sv.ret ?_
   replace h := Option.some.inj h
   subst h
   exact ⟨_, .refl _, _, rfl, ⟨upd e0 0 (some (.tup [(S r_2), (B true)])), e0, 0⟩, (.tup [(S r_2), (B true)]), weak_canon [] rfl List.nodup_nil (Nat.le_refl _) nlz (.cons rfl (avAs_tup (.cons (avAs_free rfl) (.cons (avAs_free rfl) .nil))) .nil) .nil, rfl, rfl, rfl, rfl⟩
def a28 : AFunc := ⟨2, [(.tmp 4)], (.seq (.region [⟨(some 4), (.mov (.const (.c (.val (.bool false))))), none⟩])
 (.seq (.region [(mV 5 0), (mV 6 1), (oP 7 (.call 59 [(.tmp 5), (.tmp 6)])), (mV 4 7)])
 .ret))⟩
set_option maxRecDepth 100000 in
theorem c28 : compFunc Tryz.prog 28 = some a28 := by kernel_rfl
def strings_HasPrefix_post (r : Bool) : AV → Heap → Nat → Prop := fun v h' n' => v = (B r) ∧ (h' = e0) ∧ n' = 0
/-- strings.HasPrefix -/
noncomputable def strings_HasPrefix (s_ : Tx) (prefix_ : Tx) : Option Bool :=
 (sl_HasPrefix s_ prefix_).bind fun r_ =>
 some r_
theorem strings_HasPrefix_ok {mL : Int} {s_ : Tx} {prefix_ : Tx} {r : Bool} (h : strings_HasPrefix s_ prefix_ = some r) : CPure Tryz.prog (GG mL) 28 [(S s_), (S prefix_)] (B r) := by
 refine acalls_of_sv hmix c28 (R := strings_HasPrefix_post r) ?_
 unfold strings_HasPrefix at h
 refine ssr <| un1 rfl <| dnil <| ssr <| un1 rfl <| un1 rfl ?_
 obtain ⟨r_, hr1, h⟩ := bnd h
 refine un <| ac_pure (sl_HasPrefix_ok hr1) rfl rfl rfl <| un1 rfl <| dnil <| Sv.ret ?_
 replace h := Option.some.inj h
 subst h
 exact ⟨_, .refl _, _, rfl, ⟨upd e0 0 (some (B r_)), e0, 0⟩, (B r_), weak_canon [] rfl List.nodup_nil (Nat.le_refl _) nlz (.cf rfl rfl .nil) .nil, rfl, rfl, rfl, rfl⟩
def a26 : AFunc := ⟨0, [(.cell true 8 0), (.tmp 1)], (.seq (.region [⟨(some 0), (.box (.const (.agg [(.str []), (.str []), (.val (.int .i64 0)), (.ro true 1 []), (.str []), (.val (.bool false)), (.str []), (.val (.bool false))]))), none⟩, ⟨(some 1), (.mov (kI 0)), none⟩])
 (.seq (.region [(oP 2 (.build [(.str []), (.str []), (.val (.int .i64 0)), (.ro true 1 []), (.str []), (.val (.bool false)), (.str []), (.val (.bool false))] [])), ⟨none, (.store 8 (.tmp 0) (.tmp 2)), none⟩, ⟨(some 1), (.mov (kI 3)), none⟩])
 .ret))⟩
set_option maxRecDepth 100000 in
theorem c26 : compFunc Tryz.prog 26 = some a26 := by kernel_rfl
def r4_Addressed_fn1_post (r : (TJUrl × Int)) : AV → Heap → Nat → Prop := fun v h' n' => v = (.tup [(.agg [.str r.1.Scheme, .str r.1.Host, cI r.1.Port, .ro false 1 (r.1.Path.map eStr), .str r.1.Query, cB r.1.Asks, .str r.1.Fragment, cB r.1.Points]), (I r.2)]) ∧ (h' = e0) ∧ n' = 0
/-- clerestory/clerestoryref4.Addressed$1 -/
def r4_Addressed_fn1 : (TJUrl × Int) :=
 ((⟨[], [], 0, [], [], false, [], false⟩ : TJUrl), 3)
theorem r4_Addressed_fn1_ok {mL : Int} : CPure Tryz.prog (GG mL) 26 [] (.tup [(.agg [.str r4_Addressed_fn1.1.Scheme, .str r4_Addressed_fn1.1.Host, cI r4_Addressed_fn1.1.Port, .ro false 1 (r4_Addressed_fn1.1.Path.map eStr), .str r4_Addressed_fn1.1.Query, cB r4_Addressed_fn1.1.Asks, .str r4_Addressed_fn1.1.Fragment, cB r4_Addressed_fn1.1.Points]), (I r4_Addressed_fn1.2)]) := by
 generalize h : r4_Addressed_fn1 = o
 refine acalls_of_sv hmix c26 (R := r4_Addressed_fn1_post o) ?_
 unfold r4_Addressed_fn1 at h
 refine ssr <| un <| a2v (v := (.c (.ref 0 8 0 0))) (h' := upd _ 0 (some (.cells 8 [[.str [], .str [], cI 0, .ro true 1 [], .str [], cB false, .str [], cB false]]))) (n' := 1) rfl rfl (fun h => by cases h) <| un1 rfl <| dnil <| ssr <| un1 (v := (.agg [.str [], .str [], cI 0, .ro true 1 [], .str [], cB false, .str [], cB false])) rfl <| un <| a2n (h' := upd _ 0 (some (.cells 8 [[.str [], .str [], cI 0, .ro true 1 [], .str [], cB false, .str [], cB false]]))) (n' := 1) rfl rfl (fun h => by cases h) <| un1 rfl <| dnil <| Sv.ret ?_
 subst h
 exact ⟨_, .refl _, _, rfl, ⟨upd e0 0 (some (.tup [(.agg [.str [], .str [], cI 0, .ro false 1 (([] : TT).map eStr), .str [], cB false, .str [], cB false]), (I 3)])), e0, 0⟩, (.tup [(.agg [.str [], .str [], cI 0, .ro false 1 (([] : TT).map eStr), .str [], cB false, .str [], cB false]), (I 3)]), weak_canon [] rfl List.nodup_nil (Nat.le_refl _) nlz (.cons rfl (avAs_tup (.cons (avAs_agg (.sm rfl (.sm rfl (.sm rfl (.cons .nil (.sm rfl (.sm rfl (.sm rfl (.sm rfl .nil))))))))) (.cons (avAs_free rfl) .nil))) .nil) .nil, rfl, rfl, rfl, rfl⟩
def a29_c0 : ACode := (.cond (.tmp 24) (.seq (.drawn (.fin [((mV 25 0), (0, 0)), ((mV 26 6), (0, 1)), ((oP 27 (.slStr (.tmp 25) none (some (.tmp 26)))), (0, 2)), ((mV 28 0), (0, 3)), ((mV 29 6), (0, 4)), ((oP 30 (.slStr (.tmp 28) (some (.tmp 29)) none)), (0, 5)), ((mV 4 27), (0, 6)), ((mV 5 30), (0, 7))]))
 .ret) .skip)
def a29_c1 : ACode := (.region [⟨(some 31), (.bin .add (.tmp 9) (kI 1)), none⟩, (mV 9 31)])
def a29_c2 : ACode := (.seq (.region [(oP 10 (.bin .lss (.tmp 9) (.tmp 8)))])
 (.seq (.cond (.tmp 10) .skip (.exit 0))
 (.seq (.block 1 (.seq (.region [(mV 11 9), (mV 6 11)])
 (.seq (.region [(mV 12 0), (mV 13 6), (oP 14 (.idxS (.tmp 12) (.tmp 13))), ⟨(some 15), (.bin .lss (.tmp 14) (.const (.c (.val (.int .u8 128))))), none⟩, (mV 16 15), ⟨(some 17), (.mov (.tmp 1)), (some (16, true))⟩, ⟨(some 18), (.mov (.tmp 0)), (some (16, true))⟩, ⟨(some 19), (.mov (.tmp 6)), (some (16, true))⟩, ⟨(some 20), (.mov (.tmp 6)), (some (16, true))⟩, ⟨(some 21), (.bin .add (.tmp 20) (kI 1)), (some (16, true))⟩, ⟨(some 22), (.slStr (.tmp 18) (some (.tmp 19)) (some (.tmp 21))), (some (16, true))⟩, ⟨(some 23), (.call 60 [(.tmp 17), (.tmp 22)]), (some (16, true))⟩, ⟨(some 24), (.pick (.tmp 16) (.tmp 23) (.const (.c (.val (.bool false))))), none⟩])
 a29_c0)))
 a29_c1)))
def a29 : AFunc := ⟨2, [(.tmp 4), (.tmp 5)], (.seq (.region [⟨(some 4), (.mov (.const (.c (.str [])))), none⟩, ⟨(some 5), (.mov (.const (.c (.str [])))), none⟩])
 (.seq (.seq (.region [(mV 7 0), (oP 8 (.lenS (.tmp 7))), ⟨(some 9), (.mov (kI 0)), none⟩])
 (.block 0 (.loop a29_c2)))
 (.seq (.region [(mV 32 0), (mV 4 32), ⟨(some 5), (.mov (.const (.c (.str [])))), none⟩])
 .ret)))⟩
set_option maxRecDepth 100000 in
theorem c29 : compFunc Tryz.prog 29 = some a29 := by kernel_rfl
def r4_parted_post (r : (Tx × Tx)) : AV → Heap → Nat → Prop := fun v h' n' => v = (.tup [(S r.1), (S r.2)]) ∧ (h' = e0) ∧ n' = 0
abbrev r4_parted_q0 (mL : Int) (Q : AExit → St → Prop) : AExit → St → Prop := AThen (Sv Tryz.prog (GG mL) 0 a29_c1 Q) Q
abbrev r4_parted_q1 (mL : Int) (Q : AExit → St → Prop) : AExit → St → Prop := ABlock 1 (r4_parted_q0 mL Q)
noncomputable def r4_parted_j3 (s_ : Tx) (v9 : Int) (marks : Tx) (self : Int → Option (Tx × Tx)) (K0_ : Unit → Option (Tx × Tx)) (v24 : Bool) : Option (Tx × Tx) :=
 if v24 then
  (sub? s_ 0 v9).bind fun r_ =>
  (sub? s_ v9 (s_.length : Int)).bind fun r_1 =>
  some (r_, r_1)
 else
  self (wi (v9 + 1))
theorem r4_parted_j3_ok {mL : Int} {Q : AExit → St → Prop} {s_ : Tx} {v9 : Int} {marks : Tx} {self : Int → Option (Tx × Tx)} {K0_ : Unit → Option (Tx × Tx)} {v24 : Bool} {o : (Tx × Tx)} (h : r4_parted_j3 s_ v9 marks self K0_ v24 = some o)
  (hself : ∀ (v9 : Int), self v9 = some o → ∀ s, Weak 0 s ⟨(upd (upd (upd (upd e0 0 (some (S s_))) 1 (some (S marks))) 8 (some (I (s_.length : Int)))) 9 (some (I v9))), e0, 0⟩ → (Q) .normal s)
  (hK0 : ∀ (_ : Unit), K0_ () = some o → ∀ s, Weak 0 s ⟨(upd e0 0 (some (S s_))), e0, 0⟩ → Q (.exit 0) s)
  (hr : ∀ s, Ends a29.results 0 (r4_parted_post o) .ret s → Q .ret s) :
  Sv Tryz.prog (GG mL) 0 a29_c0 (r4_parted_q1 mL Q) ⟨(upd (upd (upd (upd (upd (upd e0 0 (some (S s_))) 1 (some (S marks))) 6 (some (I v9))) 8 (some (I (s_.length : Int)))) 9 (some (I v9))) 24 (some (B v24))), e0, 0⟩ := by
 unfold r4_parted_j3 at h
 refine Sv.cond (b := v24) rfl (fun hc2 => ?_) (fun hc2 => ?_)
 ·replace h := ifT hc2 h
  refine Sv.seq <| Sv.drawn <| un1 rfl <| un1 rfl ?_
  obtain ⟨r_, hx1, h⟩ := bnd h
  refine un1 (v := (S r_)) (s_slStr rfl rfl rfl hx1) <| un1 rfl <| un1 rfl ?_
  obtain ⟨r_1, hx2, h⟩ := bnd h
  refine un1 (v := (S r_1)) (s_slStr rfl rfl rfl hx2) <| un1 rfl <| un1 rfl <| dnil <| Sv.ret ?_
  replace h := Option.some.inj h
  subst h
  exact hr _ ⟨_, .refl _, _, rfl, ⟨upd e0 0 (some (.tup [(S r_), (S r_1)])), e0, 0⟩, (.tup [(S r_), (S r_1)]), weak_canon [] rfl List.nodup_nil (Nat.le_refl _) nlz (.cons rfl (avAs_tup (.cons (avAs_free rfl) (.cons (avAs_free rfl) .nil))) .nil) .nil, rfl, rfl, rfl, rfl⟩
 ·replace h := ifF hc2 h
  refine Sv.skip <| srg <| un1 (v := (I (wi (v9 + 1)))) rfl <| un1 rfl <| dnil ?_
  exact hself (wi (v9 + 1)) h _ (wcn [] rfl (.cf rfl rfl (.cf rfl rfl (.cf rfl rfl (.cf rfl rfl .nil)))) .nil)
noncomputable def r4_parted_l0 (s_ : Tx) (marks : Tx) (K0_ : Unit → Option (Tx × Tx)) : Nat → Int → Option (Tx × Tx)
 | 0, _ => none
 | k + 1, v9 =>
  if decide (v9 < (s_.length : Int)) then
   (at? s_ v9).bind fun c_ =>
   if decide ((c_.toNat : Int) < 128) then
    (sub? s_ v9 (wi (v9 + 1))).bind fun r_2 =>
    (strings_Contains marks r_2).bind fun r_3 =>
    r4_parted_j3 s_ v9 marks (r4_parted_l0 s_ marks K0_ k) K0_ r_3
   else
    r4_parted_j3 s_ v9 marks (r4_parted_l0 s_ marks K0_ k) K0_ false
  else
   K0_ ()
theorem r4_parted_l0_ok {mL : Int} {Q : AExit → St → Prop} {s_ : Tx} {marks : Tx} {K0_ : Unit → Option (Tx × Tx)} {k : Nat} {v9 : Int} {o : (Tx × Tx)} (h : r4_parted_l0 s_ marks K0_ k v9 = some o)
  (hK0 : ∀ (_ : Unit), K0_ () = some o → ∀ s, Weak 0 s ⟨(upd e0 0 (some (S s_))), e0, 0⟩ → Q (.exit 0) s)
  (hr : ∀ s, Ends a29.results 0 (r4_parted_post o) .ret s → Q .ret s) :
  Sv Tryz.prog (GG mL) 0 (.loop a29_c2) Q ⟨(upd (upd (upd (upd e0 0 (some (S s_))) 1 (some (S marks))) 8 (some (I (s_.length : Int)))) 9 (some (I v9))), e0, 0⟩ := by
 refine Sv.loop (I := fun k s => ∃ (v9 : Int), r4_parted_l0 s_ marks K0_ k v9 = some o ∧ s = ⟨(upd (upd (upd (upd e0 0 (some (S s_))) 1 (some (S marks))) 8 (some (I (s_.length : Int)))) 9 (some (I v9))), e0, 0⟩) (fun k s hI => ?_) ⟨v9, h, rfl⟩
 clear h
 clear v9
 obtain ⟨v9, h, rfl⟩ := hI
 cases k with
 | zero => cases h
 | succ k =>
 rw [r4_parted_l0] at h
 have hself : ∀ (v9 : Int), (r4_parted_l0 s_ marks K0_ k) v9 = some o → ∀ s, Weak 0 s ⟨(upd (upd (upd (upd e0 0 (some (S s_))) 1 (some (S marks))) 8 (some (I (s_.length : Int)))) 9 (some (I v9))), e0, 0⟩ → (AThen (fun s' => ∃ s'' k', Weak 0 s' s'' ∧ k' < k + 1 ∧ (fun k s => ∃ (v9 : Int), r4_parted_l0 s_ marks K0_ k v9 = some o ∧ s = ⟨(upd (upd (upd (upd e0 0 (some (S s_))) 1 (some (S marks))) 8 (some (I (s_.length : Int)))) 9 (some (I v9))), e0, 0⟩) k' s'') Q) .normal s := fun v9 h s hw => ⟨_, k, hw, Nat.lt_succ_self k, v9, h, rfl⟩
 refine ssr <| un1 (v := (B (decide (v9 < (s_.length : Int))))) rfl <| dnil <| Sv.seq ?_
 refine Sv.cond (b := decide (v9 < (s_.length : Int))) rfl (fun hc1 => ?_) (fun hc1 => ?_)
 ·replace h := ifT hc1 h
  refine Sv.skip <| Sv.seq <| Sv.block <| ssr <| un1 rfl <| un1 rfl <| dnil <| ssr <| un1 rfl <| un1 rfl ?_
  obtain ⟨c_, hx3, h⟩ := bnd h
  refine un1 (v := (.c (.val (.int .u8 (c_.toNat : Int))))) (s_idxS rfl rfl hx3) <| un1 (v := (B (decide ((c_.toNat : Int) < 128)))) rfl <| un1 rfl ?_
  refine split2 (fun hc3 => ?_) (fun hc3 => ?_)
  ·replace h := ifT hc3 h
   refine gt rfl <| a1 rfl <| gt rfl <| a1 rfl <| gt rfl <| a1 rfl <| gt rfl <| a1 rfl <| gt rfl <| a1 (v := (I (wi (v9 + 1)))) rfl ?_
   obtain ⟨r_2, hx4, h⟩ := bnd h
   refine gt rfl <| a1 (v := (S r_2)) (s_slStr rfl rfl rfl hx4) ?_
   obtain ⟨r_3, hr1, h⟩ := bnd h
   refine gt rfl <| ac_pure (strings_Contains_ok hr1) rfl rfl rfl <| un1 (v := (B r_3)) rfl <| dnil ?_
   exact Sv.weak (wcn [] rfl (.cf rfl rfl (.cf rfl rfl (.cf rfl rfl (.cf rfl rfl (.cf rfl rfl (.cf rfl rfl .nil)))))) .nil) (r4_parted_j3_ok h hself hK0 hr)
  ·replace h := ifF hc3 h
   refine gs rfl rfl <| gs rfl rfl <| gs rfl rfl <| gs rfl rfl <| gs rfl rfl <| gs rfl rfl <| gs rfl rfl <| un1 (v := (B false)) rfl <| dnil ?_
   exact Sv.weak (wcn [] rfl (.cf rfl rfl (.cf rfl rfl (.cf rfl rfl (.cf rfl rfl (.cf rfl rfl (.cf rfl rfl .nil)))))) .nil) (r4_parted_j3_ok h hself hK0 hr)
 ·replace h := ifF hc1 h
  refine Sv.exit ?_
  exact hK0 () h _ (wcn [] rfl (.cf rfl rfl .nil) .nil)
/-- clerestory/clerestoryref4.parted -/
noncomputable def r4_parted (s_ : Tx) (marks : Tx) : Option (Tx × Tx) :=
 lim fun kk => r4_parted_l0 s_ marks (fun (_ : Unit) => 
   some (s_, [])) kk 0
theorem r4_parted_ok {mL : Int} {s_ : Tx} {marks : Tx} {r : (Tx × Tx)} (h : r4_parted s_ marks = some r) : CPure Tryz.prog (GG mL) 29 [(S s_), (S marks)] (.tup [(S r.1), (S r.2)]) := by
 refine acalls_of_sv hmix c29 (R := r4_parted_post r) ?_
 unfold r4_parted at h
 refine ssr <| un1 rfl <| un1 rfl <| dnil <| Sv.seq <| ssr <| un1 rfl <| un1 (v := (I (s_.length : Int))) rfl <| un1 rfl <| dnil <| Sv.block ?_
 obtain ⟨kk, h⟩ := lim_some h
 refine Sv.weak (wcn [] rfl (.cf rfl rfl (.cf rfl rfl (.cf rfl rfl (.cf rfl rfl .nil)))) .nil) (r4_parted_l0_ok h ?_ (fun s hs => hs))
 ·intro _ h _ hw1
  refine Sv.weak hw1 <| ssr <| un1 rfl <| un1 rfl <| un1 rfl <| dnil <| Sv.ret ?_
  replace h := Option.some.inj h
  subst h
  exact ⟨_, .refl _, _, rfl, ⟨upd e0 0 (some (.tup [(S s_), (S [])])), e0, 0⟩, (.tup [(S s_), (S [])]), weak_canon [] rfl List.nodup_nil (Nat.le_refl _) nlz (.cons rfl (avAs_tup (.cons (avAs_free rfl) (.cons (avAs_free rfl) .nil))) .nil) .nil, rfl, rfl, rfl, rfl⟩
def a31_c0 : ACode := (.seq (.region [(oP 14 (.bin .lss (.tmp 13) (.tmp 12)))])
 (.seq (.cond (.tmp 14) .skip (.exit 0))
 (.seq (.block 1 (.seq (.region [(oP 15 (.iaddr 1 (.tmp 11) (.tmp 13))), (oP 16 (.load false 1 (.tmp 15))), (mV 5 16)])
 (.seq (.seq (.region [(mV 17 5), (oP 18 (.conv .i64 (.tmp 17))), ⟨(some 19), (.call 32 [(.tmp 18), (kI 97), (kI 122)]), none⟩, (oP 20 (.un .not (.tmp 19))), (mV 21 20), ⟨(some 22), (.mov (.tmp 5)), (some (21, true))⟩, ⟨(some 23), (.conv .i64 (.tmp 22)), (some (21, true))⟩, ⟨(some 24), (.call 32 [(.tmp 23), (kI 48), (kI 57)]), (some (21, true))⟩, ⟨(some 25), (.un .not (.tmp 24)), (some (21, true))⟩, ⟨(some 26), (.pick (.tmp 21) (.tmp 25) (.const (.c (.val (.bool false))))), none⟩, (mV 27 26), ⟨(some 28), (.mov (.tmp 5)), (some (27, true))⟩, ⟨(some 29), (.bin .neq (.tmp 28) (.const (.c (.val (.int .u8 45))))), (some (27, true))⟩, ⟨(some 30), (.pick (.tmp 27) (.tmp 29) (.const (.c (.val (.bool false))))), none⟩, (mV 31 30), ⟨(some 32), (.mov (.tmp 5)), (some (31, true))⟩, ⟨(some 33), (.bin .neq (.tmp 32) (.const (.c (.val (.int .u8 46))))), (some (31, true))⟩, ⟨(some 34), (.pick (.tmp 31) (.tmp 33) (.const (.c (.val (.bool false))))), none⟩, (mV 35 34), ⟨(some 36), (.mov (.tmp 5)), (some (35, false))⟩, ⟨(some 37), (.bin .eql (.tmp 36) (.const (.c (.val (.int .u8 46))))), (some (35, false))⟩, ⟨(some 38), (.mov (.tmp 37)), (some (35, false))⟩, ⟨(some 39), (.mov (.tmp 3)), (some (38, true))⟩, ⟨(some 40), (.bin .eql (.tmp 39) (.const (.c (.val (.int .u8 46))))), (some (38, true))⟩, ⟨(some 41), (.pick (.tmp 38) (.tmp 40) (.const (.c (.val (.bool false))))), (some (35, false))⟩, ⟨(some 42), (.pick (.tmp 35) (.const (.c (.val (.bool true)))) (.tmp 41)), none⟩])
 (.cond (.tmp 42) (.seq (.region [⟨(some 2), (.mov (.const (.c (.val (.bool false))))), none⟩])
 .ret) .skip))
 (.region [(mV 43 5), (mV 3 43)]))))
 (.region [⟨(some 44), (.bin .add (.tmp 13) (kI 1)), none⟩, (mV 13 44)]))))
def a31 : AFunc := ⟨1, [(.tmp 2)], (.seq (.region [⟨(some 2), (.mov (.const (.c (.val (.bool false))))), none⟩])
 (.seq (.seq (.region [(mV 6 0), (oP 7 (.lenS (.tmp 6))), ⟨(some 8), (.call 32 [(.tmp 7), (kI 1), (kI 100)]), none⟩, (oP 9 (.un .not (.tmp 8)))])
 (.cond (.tmp 9) (.seq (.region [⟨(some 2), (.mov (.const (.c (.val (.bool false))))), none⟩])
 .ret) .skip))
 (.seq (.region [⟨(some 3), (.mov (.const (.c (.val (.int .u8 46))))), none⟩])
 (.seq (.seq (.region [(mV 10 0), (oP 11 (.toBytes (.tmp 10))), (oP 12 (.len (.tmp 11))), ⟨(some 13), (.mov (kI 0)), none⟩])
 (.block 0 (.loop a31_c0)))
 (.seq (.region [(mV 45 3), ⟨(some 46), (.bin .neq (.tmp 45) (.const (.c (.val (.int .u8 46))))), none⟩, (mV 2 46)])
 .ret)))))⟩
set_option maxRecDepth 100000 in
theorem c31 : compFunc Tryz.prog 31 = some a31 := by kernel_rfl
def r4_hostRight_post (r : Bool) : AV → Heap → Nat → Prop := fun v h' n' => v = (B r) ∧ (h' = e0) ∧ n' = 0
noncomputable def r4_hostRight_l0 (h_ : Tx) (K0_ : Int → Option Bool) : Nat → Int → Int → Option Bool
 | 0, _, _ => none
 | k + 1, last, v13 =>
  if decide (v13 < ((ints h_).length : Int)) then
   (at? (ints h_) v13).bind fun x_ =>
   if (((((!(r4_Between (wr .i64 x_) 97 122)) && (!(r4_Between (wr .i64 x_) 48 57))) && (!decide (x_ = 45))) && (!decide (x_ = 46))) || ((decide (x_ = 46)) && (decide (last = 46)))) then
    some false
   else
    (r4_hostRight_l0 h_ K0_ k) x_ (wi (v13 + 1))
  else
   K0_ last
theorem r4_hostRight_l0_ok {mL : Int} {Q : AExit → St → Prop} {h_ : Tx} {K0_ : Int → Option Bool} {k : Nat} {last : Int} {v13 : Int} {o : Bool} (h : r4_hostRight_l0 h_ K0_ k last v13 = some o)
  (hK0 : ∀ (last1 : Int), K0_ last1 = some o → ∀ s, Weak 0 s ⟨(upd e0 3 (some (.c (.val (.int .u8 last1))))), e0, 0⟩ → Q (.exit 0) s)
  (hr : ∀ s, Ends a31.results 0 (r4_hostRight_post o) .ret s → Q .ret s) :
  Sv Tryz.prog (GG mL) 0 (.loop a31_c0) Q ⟨(upd (upd (upd (upd e0 3 (some (.c (.val (.int .u8 last))))) 11 (some (lstV false 0 1 (ints h_).length))) 12 (some (I ((ints h_).length : Int)))) 13 (some (I v13))), (upd e0 0 (lstB false 1 ((ints h_).map (eK .u8)))), 1⟩ := by
 refine Sv.loop (I := fun k s => ∃ (last : Int), ∃ (v13 : Int), r4_hostRight_l0 h_ K0_ k last v13 = some o ∧ s = ⟨(upd (upd (upd (upd e0 3 (some (.c (.val (.int .u8 last))))) 11 (some (lstV false 0 1 (ints h_).length))) 12 (some (I ((ints h_).length : Int)))) 13 (some (I v13))), (upd e0 0 (lstB false 1 ((ints h_).map (eK .u8)))), 1⟩) (fun k s hI => ?_) ⟨last, v13, h, rfl⟩
 clear h
 clear v13 last
 obtain ⟨last, v13, h, rfl⟩ := hI
 cases k with
 | zero => cases h
 | succ k =>
 rw [r4_hostRight_l0] at h
 have hself : ∀ (last : Int) (v13 : Int), (r4_hostRight_l0 h_ K0_ k) last v13 = some o → ∀ s, Weak 0 s ⟨(upd (upd (upd (upd e0 3 (some (.c (.val (.int .u8 last))))) 11 (some (lstV false 0 1 (ints h_).length))) 12 (some (I ((ints h_).length : Int)))) 13 (some (I v13))), (upd e0 0 (lstB false 1 ((ints h_).map (eK .u8)))), 1⟩ → (AThen (fun s' => ∃ s'' k', Weak 0 s' s'' ∧ k' < k + 1 ∧ (fun k s => ∃ (last : Int), ∃ (v13 : Int), r4_hostRight_l0 h_ K0_ k last v13 = some o ∧ s = ⟨(upd (upd (upd (upd e0 3 (some (.c (.val (.int .u8 last))))) 11 (some (lstV false 0 1 (ints h_).length))) 12 (some (I ((ints h_).length : Int)))) 13 (some (I v13))), (upd e0 0 (lstB false 1 ((ints h_).map (eK .u8)))), 1⟩) k' s'') Q) .normal s := fun last v13 h s hw => ⟨_, k, hw, Nat.lt_succ_self k, last, v13, h, rfl⟩
 refine ssr <| un1 (v := (B (decide (v13 < ((ints h_).length : Int))))) rfl <| dnil <| Sv.seq ?_
 refine Sv.cond (b := decide (v13 < ((ints h_).length : Int))) rfl (fun hc2 => ?_) (fun hc2 => ?_)
 ·replace h := ifT hc2 h
  refine Sv.skip <| Sv.seq <| Sv.block <| ssr ?_
  obtain ⟨x_, hx1, h⟩ := bnd h
  refine un1 (v := (.c (.ref 0 1 v13.toNat 0))) (s_iaddrL rfl rfl (fun h => by cases h) hx1) <| un1 (v := (.c (.val (.int .u8 x_)))) (s_loadL (z := false) (e := (eK .u8)) rfl rfl (fun h => by cases h) hx1 rfl rfl) <| un1 rfl <| dnil <| Sv.seq <| ssr <| un1 rfl <| un1 (v := (I (wr .i64 x_))) rfl <| un <| ac_pure (r4_Between_ok (mL := mL) (wr .i64 x_) 97 122) rfl rfl rfl <| un1 (v := (B (!(r4_Between (wr .i64 x_) 97 122)))) rfl <| un1 rfl ?_
  refine gjoin 5 (d := 26) (v := (B ((!(r4_Between (wr .i64 x_) 97 122)) && (!(r4_Between (wr .i64 x_) 48 57))))) (fun X hX => ?_) ?_
  ·refine split2 (fun hc3 => ?_) (fun hc3 => ?_)
   ·refine gt rfl <| a1 rfl <| gt rfl <| a1 (v := (I (wr .i64 x_))) rfl <| gt rfl <| ac_pure (r4_Between_ok (mL := mL) (wr .i64 x_) 48 57) rfl rfl rfl <| gt rfl <| a1 (v := (B (!(r4_Between (wr .i64 x_) 48 57)))) rfl <| un1 (v := (B (!(r4_Between (wr .i64 x_) 48 57)))) rfl <| dnil ?_
    exact hX _ (.putEq (by rw [hc3]; rfl) (.skip _ _ (.skip _ _ (.skip _ _ (.skip _ _ (.putEq (by rw [hc3]) (.refl _)) rfl) rfl) rfl) rfl))
   ·refine gs rfl rfl <| gs rfl rfl <| gs rfl rfl <| gs rfl rfl <| un1 (v := (B false)) rfl <| dnil ?_
    exact hX _ (.putEq (by rw [hc3]; rfl) (.skip _ _ (.skip _ _ (.skip _ _ (.skip _ _ (.putEq (by rw [hc3]) (.refl _)) rfl) rfl) rfl) rfl))
  refine un1 rfl ?_
  refine gjoin 3 (d := 30) (v := (B (((!(r4_Between (wr .i64 x_) 97 122)) && (!(r4_Between (wr .i64 x_) 48 57))) && (!decide (x_ = 45))))) (fun X hX => ?_) ?_
  ·refine split2 (fun hc4 => ?_) (fun hc4 => ?_)
   ·refine gt rfl <| a1 rfl <| gt rfl <| a1 (v := (B (!decide (x_ = 45)))) rfl <| un1 (v := (B (!decide (x_ = 45)))) rfl <| dnil ?_
    exact hX _ (.putEq (by rw [hc4]; rfl) (.skip _ _ (.skip _ _ (.putEq (by rw [hc4]) (.refl _)) rfl) rfl))
   ·refine gs rfl rfl <| gs rfl rfl <| un1 (v := (B false)) rfl <| dnil ?_
    exact hX _ (.putEq (by rw [hc4]; rfl) (.skip _ _ (.skip _ _ (.putEq (by rw [hc4]) (.refl _)) rfl) rfl))
  refine un1 rfl ?_
  refine gjoin 3 (d := 34) (v := (B ((((!(r4_Between (wr .i64 x_) 97 122)) && (!(r4_Between (wr .i64 x_) 48 57))) && (!decide (x_ = 45))) && (!decide (x_ = 46))))) (fun X hX => ?_) ?_
  ·refine split2 (fun hc5 => ?_) (fun hc5 => ?_)
   ·refine gt rfl <| a1 rfl <| gt rfl <| a1 (v := (B (!decide (x_ = 46)))) rfl <| un1 (v := (B (!decide (x_ = 46)))) rfl <| dnil ?_
    exact hX _ (.putEq (by rw [hc5]; rfl) (.skip _ _ (.skip _ _ (.putEq (by rw [hc5]) (.refl _)) rfl) rfl))
   ·refine gs rfl rfl <| gs rfl rfl <| un1 (v := (B false)) rfl <| dnil ?_
    exact hX _ (.putEq (by rw [hc5]; rfl) (.skip _ _ (.skip _ _ (.putEq (by rw [hc5]) (.refl _)) rfl) rfl))
  refine un1 rfl ?_
  refine gjoin 7 (d := 42) (v := (B (((((!(r4_Between (wr .i64 x_) 97 122)) && (!(r4_Between (wr .i64 x_) 48 57))) && (!decide (x_ = 45))) && (!decide (x_ = 46))) || ((decide (x_ = 46)) && (decide (last = 46)))))) (fun X hX => ?_) ?_
  ·refine split2 (fun hc7 => ?_) (fun hc7 => ?_)
   ·refine gs rfl rfl <| gs rfl rfl <| gs rfl rfl <| gu rfl <| gu rfl <| gs rfl rfl <| un1 (v := (B true)) rfl <| dnil ?_
    exact hX _ (.putEq (by rw [hc7]; rfl) (.skip _ _ (.skip _ _ (.skip _ _ (.skip _ _ (.skip _ _ (.skip _ _ (.putEq (by rw [hc7]) (.refl _)) rfl) rfl) rfl) rfl) rfl) rfl))
   ·refine gt rfl <| a1 rfl <| gt rfl <| a1 (v := (B (decide (x_ = 46)))) rfl <| gt rfl <| a1 rfl ?_
    refine gjoin 3 (d := 41) (v := (B ((decide (x_ = 46)) && (decide (last = 46))))) (fun X hX => ?_) ?_
    ·refine split2 (fun hc6 => ?_) (fun hc6 => ?_)
     ·refine gt rfl <| a1 rfl <| gt rfl <| a1 (v := (B (decide (last = 46)))) rfl <| gt rfl <| a1 (v := (B (decide (last = 46)))) rfl <| dnil ?_
      exact hX _ (.putEq (by rw [hc6]; rfl) (.skip _ _ (.skip _ _ (.putEq (by rw [hc6]) (.refl _)) rfl) rfl))
     ·refine gs rfl rfl <| gs rfl rfl <| gt rfl <| a1 (v := (B false)) rfl <| dnil ?_
      exact hX _ (.putEq (by rw [hc6]; rfl) (.skip _ _ (.skip _ _ (.putEq (by rw [hc6]) (.refl _)) rfl) rfl))
    refine un1 (v := (B ((decide (x_ = 46)) && (decide (last = 46))))) rfl <| dnil ?_
    exact hX _ (.putEq (by rw [hc7]; rfl) (.skip _ _ (.skip _ _ (.skip _ _ (.skip _ _ (.putEq (by rw [hc7]) (.refl _)) rfl) rfl) rfl) rfl))
  refine dnil ?_
  refine Sv.cond (b := (((((!(r4_Between (wr .i64 x_) 97 122)) && (!(r4_Between (wr .i64 x_) 48 57))) && (!decide (x_ = 45))) && (!decide (x_ = 46))) || ((decide (x_ = 46)) && (decide (last = 46))))) rfl (fun hc8 => ?_) (fun hc8 => ?_)
  ·replace h := ifT hc8 h
   refine ssr <| un1 rfl <| dnil <| Sv.ret ?_
   replace h := Option.some.inj h
   subst h
   exact hr _ ⟨_, .refl _, _, rfl, ⟨upd e0 0 (some (B false)), e0, 0⟩, (B false), weak_canon [] rfl List.nodup_nil (Nat.le_refl _) nlz (.cf rfl rfl .nil) .nil, rfl, rfl, rfl, rfl⟩
  ·replace h := ifF hc8 h
   refine Sv.skip <| srg <| un1 rfl <| un1 rfl <| dnil <| srg <| un1 (v := (I (wi (v13 + 1)))) rfl <| un1 rfl <| dnil ?_
   exact hself x_ (wi (v13 + 1)) h _ (wcn [0] rfl (.cf rfl rfl (.cf rfl rfl (.cons rfl (.c (lstC_ren rfl (by decide))) (.cf rfl rfl .nil)))) (.row (by decide) rfl (fr_map fun _ => rfl) .nil))
 ·replace h := ifF hc2 h
  refine Sv.exit ?_
  exact hK0 last h _ (wcn [] rfl (.cf rfl rfl .nil) .nil)
/-- clerestory/clerestoryref4.hostRight -/
noncomputable def r4_hostRight (h_ : Tx) : Option Bool :=
 if (!(r4_Between (h_.length : Int) 1 100)) then
  some false
 else
  lim fun kk => r4_hostRight_l0 h_ (fun (last1 : Int) => 
    some (!decide (last1 = 46))) kk 46 0
theorem r4_hostRight_ok {mL : Int} {h_ : Tx} {r : Bool} (h : r4_hostRight h_ = some r) : CPure Tryz.prog (GG mL) 31 [(S h_)] (B r) := by
 refine acalls_of_sv hmix c31 (R := r4_hostRight_post r) ?_
 unfold r4_hostRight at h
 refine ssr <| un1 rfl <| dnil <| Sv.seq <| ssr <| un1 rfl <| un1 (v := (I (h_.length : Int))) rfl <| un <| ac_pure (r4_Between_ok (mL := mL) (h_.length : Int) 1 100) rfl rfl rfl <| un1 (v := (B (!(r4_Between (h_.length : Int) 1 100)))) rfl <| dnil ?_
 refine Sv.cond (b := (!(r4_Between (h_.length : Int) 1 100))) rfl (fun hc1 => ?_) (fun hc1 => ?_)
 ·replace h := ifT hc1 h
  refine ssr <| un1 rfl <| dnil <| Sv.ret ?_
  replace h := Option.some.inj h
  subst h
  exact ⟨_, .refl _, _, rfl, ⟨upd e0 0 (some (B false)), e0, 0⟩, (B false), weak_canon [] rfl List.nodup_nil (Nat.le_refl _) nlz (.cf rfl rfl .nil) .nil, rfl, rfl, rfl, rfl⟩
 ·replace h := ifF hc1 h
  refine Sv.skip <| ssr <| un1 rfl <| dnil <| Sv.seq <| ssr <| un1 rfl <| un <| a2v (v := (lstV false 0 1 (ints h_).length)) (h' := upd _ 0 (lstB false 1 ((ints h_).map (eK .u8)))) (n' := 1) rfl (s_toBytes rfl) (fun h => by cases h) <| un1 (v := (I ((ints h_).length : Int))) (s_lenL rfl (len_nil_of (fun h => by cases h))) <| un1 rfl <| dnil <| Sv.block ?_
  obtain ⟨kk, h⟩ := lim_some h
  refine Sv.weak (wcn [0] rfl (.cf rfl rfl (.cf rfl rfl (.cons rfl (.c (lstC_ren rfl (by decide))) (.cf rfl rfl .nil)))) (.row (by decide) rfl (fr_map fun _ => rfl) .nil)) (r4_hostRight_l0_ok h ?_ (fun s hs => hs))
  ·intro last1 h _ hw1
   refine Sv.weak hw1 <| ssr <| un1 rfl <| un1 (v := (B (!decide (last1 = 46)))) rfl <| un1 rfl <| dnil <| Sv.ret ?_
   replace h := Option.some.inj h
   subst h
   exact ⟨_, .refl _, _, rfl, ⟨upd e0 0 (some (B (!decide (last1 = 46)))), e0, 0⟩, (B (!decide (last1 = 46))), weak_canon [] rfl List.nodup_nil (Nat.le_refl _) nlz (.cf rfl rfl .nil) .nil, rfl, rfl, rfl, rfl⟩
noncomputable abbrev sb_Grow (l : List UInt8) (x0 : Int) : Option Tx := bGrow? x0
/-- (*strings.Builder).Grow, by my own walk of it -/
theorem sb_Grow_ok {mL : Int} {z : Bool} {l : List UInt8} {x0 : Int} {r : List UInt8} (hz : z = true → l = []) (h : sb_Grow l x0 = some r) : ACalls Tryz.prog (GG mL) 97 [.c (.ref 0 2 0 0), (I x0)] (bldH 76 5 true []) 2 (bPost 76 5 (.tup []) r) := bGrow_ok blays bL4 b165 h
end Go.Proofs.YtjicgjhhiallkaaGreatDoorBv
-- squeezed
