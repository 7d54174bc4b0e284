/- Printed by a program of mine (bgen.py): plain functions, and the walks that show that the code comes to what they answer. -/
import Derived.Test.YtaejmblphhjccaaGreatDoorGCountNumbers1
namespace Go.Proofs.YtaejmblphhjccaaGreatDoorBv
open Go
set_option linter.unusedVariables false
set_option linter.unusedSimpArgs false
set_option maxRecDepth 100000
def a23_c1 : ACode := (.region [(oP 48 (.bin .add (.tmp 36) (kI 1))), (mV 36 48)])
def a23_c2 : ACode := (sr [(oP 37 (.bin .lss (.tmp 36) (.tmp 35)))]
 (.seq (.cond (.tmp 37) .skip (.exit 2))
 (.seq (.block 3 (sr [(oP 38 (.iaddr 1 (.tmp 34) (.tmp 36))), (oP 39 (.load false 1 (.tmp 38))), (mV 12 39)]
 (sr [(oP 40 (.load true 2 (.tmp 2))), (mV 41 1), (mV 42 12), (oP 43 (.call 24 [(.tmp 40), (.tmp 41), (.tmp 42)]))]
 (.cond (.tmp 43) (.region [(mV 44 6), (mV 45 12), (mV 46 9), (oP 47 (.callv (.tmp 44) [(.tmp 45), (.tmp 46)])), (mV 9 47)]) .skip))))
 a23_c1)))
def a23_c3 : ACode := (.cond (.tmp 57) (.region [(mV 58 6), (mV 59 7), (oP 60 (.callv (.tmp 58) [(.tmp 59), (kI 1)]))]) .skip)
def a23_c0 : ACode := (.seq (sr [(oP 33 (.faddr 5 (.tmp 8))), (oP 34 (.load false 1 (.tmp 33))), (oP 35 (.len (.tmp 34))), (oP 36 (.mov (kI 0)))]
 (.block 2 (.loop a23_c2)))
 (sr [(oP 49 (.faddr 4 (.tmp 8))), (oP 50 (.load false 1 (.tmp 49))), (oP 51 (.bin .lss (.tmp 50) (kI 0))), (mV 52 51), ⟨(some 53), (.load true 2 (.tmp 2)), (some (52, true))⟩, ⟨(some 54), (.mov (.tmp 1)), (some (52, true))⟩, ⟨(some 55), (.mov (.tmp 7)), (some (52, true))⟩, ⟨(some 56), (.call 24 [(.tmp 53), (.tmp 54), (.tmp 55)]), (some (52, true))⟩, (oP 57 (.pick (.tmp 52) (.tmp 56) kF))]
 a23_c3))
def a23_c4 : ACode := (.region [(oP 61 (.bin .add (.tmp 21) (kI 1))), (mV 21 61)])
def a23_c5 : ACode := (sr [(oP 22 (.bin .lss (.tmp 21) (.tmp 20)))]
 (.seq (.cond (.tmp 22) .skip (.exit 0))
 (.seq (.block 1 (sr [(mV 23 21), (oP 24 (.iaddr 6 (.tmp 19) (.tmp 21))), (oP 25 (.load true 6 (.tmp 24))), (oP 8 (.box (.const (.agg [(.val (.int .i64 0)), (.str []), (.ro true 2 []), (.str []), (.val (.int .i64 0)), (.ro true 1 [])])))), (mV 7 23), (oN (.store 6 (.tmp 8) (.tmp 25)))]
 (sr [(oP 27 (.load true 6 (.tmp 8))), (oP 28 (.call 49 [(.tmp 27), (.const (.c (.str [115, 116, 97, 114, 116])))])), (mV 26 28), (oP 29 (.ext (.tmp 26) 0)), (oP 30 (.ext (.tmp 26) 1)), (mV 9 29), (mV 10 30)]
 (.seq (sr [(mV 31 10), (oP 32 (.un .not (.tmp 31)))]
 (.cond (.tmp 32) (.region [(oP 9 (.mov (kI 1)))]) .skip))
 a23_c0))))
 a23_c4)))
def a23 : AFunc := ⟨2, [(.tmp 4)], (sr [(oP 2 (.box (.tmp 0))), (oP 4 (.mov (.const (.c (.ro true 1 [])))))]
 (sr [(oP 13 (.faddr 0 (.tmp 2))), (oP 14 (.load false 1 (.tmp 13))), (oP 15 (.len (.tmp 14))), (oP 16 (.mksl 1 8 [(.val (.int .i64 0))] (.tmp 15) (.tmp 15))), (oP 5 (.box (.const (.c (.ro true 1 []))))), (oN (.store 1 (.tmp 5) (.tmp 16)))]
 (sr [(oP 17 (.mkfn (.func 48) [] [(.tmp 2), (.tmp 5)])), (mV 6 17)]
 (.seq (sr [(oP 18 (.faddr 0 (.tmp 2))), (oP 19 (.load false 1 (.tmp 18))), (oP 20 (.len (.tmp 19))), (oP 21 (.mov (kI 0)))]
 (.block 0 (.loop a23_c5)))
 (sr [(oP 62 (.load false 1 (.tmp 5))), (mV 4 62)]
 .ret)))))⟩
theorem c23 : compFunc Tryz.prog 23 = some a23 := by kernel_rfl
def Z11 (r : (List Int)) : AV → Heap → Nat → Prop := fun v h' n' => ∃ z0 : Bool, (z0 = true → r = []) ∧ v = (lstV z0 0 1 r.length) ∧ (h' = (upd e0 0 (lstB z0 1 (r.map eI)))) ∧ n' = 1
abbrev Z38 (l_ : (List (Ar59 TVal))) (d_ : TDoc) (F_ : (List Int) → Int → Option (List Int)) (o : (List Int)) (R_ : St → Prop) : Prop := ∀ (out : (List Int)) (v21 : Int) (zout : Bool) (_ : zout = true → out = []), F_ out v21 = some o → ∀ s, Weak 0 s ⟨(ue [(21, (I v21)), (20, (I (d_.Nodes.length : Int))), (19, (.c (.ro false 6 (d_.Nodes.map e_TNode)))), (6, (.c (.fn (.func 48) [] [.ref 0 2 0 0, .ref 1 1 0 0]))), (5, (.c (.ref 1 1 0 0))), (2, (.c (.ref 0 2 0 0))), (1, (.c (.ro false 118 (l_.map (eA59 e_TVal)))))]), (upd (upd (upd e0 0 (some (.cells 2 [(e_TDoc d_)]))) 1 (some (.cells 1 [[lstC zout 2 1 out.length]]))) 2 (lstB zout 1 (out.map eI))), 3⟩ → R_ s
abbrev Z39 (F_ : (List Int) → Option (List Int)) (o : (List Int)) (R_ : St → Prop) : Prop := ∀ (out1 : (List Int)) (zout1 : Bool) (_ : zout1 = true → out1 = []), F_ out1 = some o → ∀ s, Weak 0 s ⟨(upd e0 5 (some (.c (.ref 0 1 0 0)))), (upd (upd e0 0 (some (.cells 1 [[lstC zout1 1 1 out1.length]]))) 1 (lstB zout1 1 (out1.map eI))), 2⟩ → R_ s
noncomputable def Z1i (v21 : Int) (l_ : (List (Ar59 TVal))) (d_ : TDoc) (self : (List Int) → Int → Option (List Int)) (K0_ : (List Int) → Option (List Int)) (out2 : (List Int)) : Option (List Int) :=
 self out2 (wi (v21 + 1))
theorem Z5w {mL : Int} {Q : AExit → St → Prop} {v21 : Int} {l_ : (List (Ar59 TVal))} {d_ : TDoc} {self : (List Int) → Int → Option (List Int)} {K0_ : (List Int) → Option (List Int)} {out2 : (List Int)} {zout2 : Bool} (hzout2 : zout2 = true → out2 = []) {o : (List Int)} (h : Z1i v21 l_ d_ self K0_ out2 = some o)
  (hself : Z38 l_ d_ self o (Q .normal))
  (hK0 : Z39 K0_ o (Q (.exit 0)))
  (hr : ∀ s, Ends a23.results 0 (Z11 o) .ret s → Q .ret s) :
  Sv Tryz.prog (GG mL) 0 a23_c4 Q ⟨(ue [(21, (I v21)), (20, (I (d_.Nodes.length : Int))), (19, (.c (.ro false 6 (d_.Nodes.map e_TNode)))), (6, (.c (.fn (.func 48) [] [.ref 0 2 0 0, .ref 1 1 0 0]))), (5, (.c (.ref 1 1 0 0))), (2, (.c (.ref 0 2 0 0))), (1, (.c (.ro false 118 (l_.map (eA59 e_TVal)))))]), (upd (upd (upd e0 0 (some (.cells 2 [(e_TDoc d_)]))) 1 (some (.cells 1 [[lstC zout2 2 1 out2.length]]))) 2 (lstB zout2 1 (out2.map eI))), 3⟩ := by
 unfold Z1i at h
 refine srg <| un1 (v := (I (wi (v21 + 1)))) rfl <| un1 rfl <| dnil ?_
 exact hself out2 (wi (v21 + 1)) zout2 hzout2 h _ (wcn [0, 1, 2] rfl (.cf rfl rfl (.cf rfl rfl (.cf rfl rfl (.cons rfl (.c (fn_as .nil (.cons (.ref rfl (by decide)) (.cons (.ref rfl (by decide)) .nil)))) (.cr rfl rfl rfl (.cr rfl rfl rfl (.cf rfl rfl .nil))))))) (.row (by decide) rfl (fr_map fun _ => rfl) (.box (by decide) rfl (blkAs_cells (.cons (lstC_ren rfl (by decide)) .nil)) (.box (by decide) rfl (blkAs_cells (.sm rfl (.sm rfl .nil))) .nil))))
abbrev Z5x (l_ : (List (Ar59 TVal))) (v21 : Int) (d_ : TDoc) (x_ : TNode) (F_ : (List Int) → Int → Int → Option (List Int)) (o : (List Int)) (R_ : St → Prop) : Prop := ∀ (out4 : (List Int)) (next1 : Int) (v36 : Int) (zout4 : Bool) (_ : zout4 = true → out4 = []), F_ out4 next1 v36 = some o → ∀ s, Weak 0 s ⟨(ue [(36, (I v36)), (35, (I (x_.Kids.length : Int))), (34, (.c (.ro false 1 (x_.Kids.map eI)))), (21, (I v21)), (20, (I (d_.Nodes.length : Int))), (19, (.c (.ro false 6 (d_.Nodes.map e_TNode)))), (9, (I next1)), (8, (.c (.ref 3 6 0 0))), (7, (I v21)), (6, (.c (.fn (.func 48) [] [.ref 0 2 0 0, .ref 1 1 0 0]))), (5, (.c (.ref 1 1 0 0))), (2, (.c (.ref 0 2 0 0))), (1, (.c (.ro false 118 (l_.map (eA59 e_TVal)))))]), (upd (upd (upd (upd e0 0 (some (.cells 2 [(e_TDoc d_)]))) 1 (some (.cells 1 [[lstC zout4 2 1 out4.length]]))) 2 (lstB zout4 1 (out4.map eI))) 3 (some (.cells 6 [(e_TNode x_)]))), 4⟩ → R_ s
abbrev Z5y (l_ : (List (Ar59 TVal))) (v21 : Int) (d_ : TDoc) (x_ : TNode) (F_ : (List Int) → Option (List Int)) (o : (List Int)) (R_ : St → Prop) : Prop := ∀ (out5 : (List Int)) (zout5 : Bool) (_ : zout5 = true → out5 = []), F_ out5 = some o → ∀ s, Weak 0 s ⟨(ue [(21, (I v21)), (20, (I (d_.Nodes.length : Int))), (19, (.c (.ro false 6 (d_.Nodes.map e_TNode)))), (8, (.c (.ref 3 6 0 0))), (7, (I v21)), (6, (.c (.fn (.func 48) [] [.ref 0 2 0 0, .ref 1 1 0 0]))), (5, (.c (.ref 1 1 0 0))), (2, (.c (.ref 0 2 0 0))), (1, (.c (.ro false 118 (l_.map (eA59 e_TVal)))))]), (upd (upd (upd (upd e0 0 (some (.cells 2 [(e_TDoc d_)]))) 1 (some (.cells 1 [[lstC zout5 2 1 out5.length]]))) 2 (lstB zout5 1 (out5.map eI))) 3 (some (.cells 6 [(e_TNode x_)]))), 4⟩ → R_ s
noncomputable def Z21 (v36 : Int) (l_ : (List (Ar59 TVal))) (v21 : Int) (d_ : TDoc) (x_ : TNode) (self : (List Int) → Int → Int → Option (List Int)) (K2_ : (List Int) → Option (List Int)) (out6 : (List Int)) (next2 : Int) : Option (List Int) :=
 self out6 next2 (wi (v36 + 1))
theorem Z5z {mL : Int} {Q : AExit → St → Prop} {v36 : Int} {l_ : (List (Ar59 TVal))} {v21 : Int} {d_ : TDoc} {x_ : TNode} {self : (List Int) → Int → Int → Option (List Int)} {K2_ : (List Int) → Option (List Int)} {out6 : (List Int)} {next2 : Int} {zout6 : Bool} (hzout6 : zout6 = true → out6 = []) {o : (List Int)} (h : Z21 v36 l_ v21 d_ x_ self K2_ out6 next2 = some o)
  (hself : Z5x l_ v21 d_ x_ self o (Q .normal))
  (hK2 : Z5y l_ v21 d_ x_ K2_ o (Q (.exit 2)))
  (hr : ∀ s, Ends a23.results 0 (Z11 o) .ret s → Q .ret s) :
  Sv Tryz.prog (GG mL) 0 a23_c1 Q ⟨(ue [(36, (I v36)), (35, (I (x_.Kids.length : Int))), (34, (.c (.ro false 1 (x_.Kids.map eI)))), (21, (I v21)), (20, (I (d_.Nodes.length : Int))), (19, (.c (.ro false 6 (d_.Nodes.map e_TNode)))), (9, (I next2)), (8, (.c (.ref 3 6 0 0))), (7, (I v21)), (6, (.c (.fn (.func 48) [] [.ref 0 2 0 0, .ref 1 1 0 0]))), (5, (.c (.ref 1 1 0 0))), (2, (.c (.ref 0 2 0 0))), (1, (.c (.ro false 118 (l_.map (eA59 e_TVal)))))]), (upd (upd (upd (upd e0 0 (some (.cells 2 [(e_TDoc d_)]))) 1 (some (.cells 1 [[lstC zout6 2 1 out6.length]]))) 2 (lstB zout6 1 (out6.map eI))) 3 (some (.cells 6 [(e_TNode x_)]))), 4⟩ := by
 unfold Z21 at h
 refine srg <| un1 (v := (I (wi (v36 + 1)))) rfl <| un1 rfl <| dnil ?_
 exact hself out6 next2 (wi (v36 + 1)) zout6 hzout6 h _ (wcn [0, 1, 2, 3] rfl (.cf rfl rfl (.cf rfl rfl (.cf rfl rfl (.cf rfl rfl (.cf rfl rfl (.cf rfl rfl (.cf rfl rfl (.cr rfl rfl rfl (.cf rfl rfl (.cons rfl (.c (fn_as .nil (.cons (.ref rfl (by decide)) (.cons (.ref rfl (by decide)) .nil)))) (.cr rfl rfl rfl (.cr rfl rfl rfl (.cf rfl rfl .nil))))))))))))) (.box (by decide) rfl (blkAs_cells (.sm rfl (.sm rfl (.sm rfl (.sm rfl (.sm rfl (.sm rfl .nil))))))) (.row (by decide) rfl (fr_map fun _ => rfl) (.box (by decide) rfl (blkAs_cells (.cons (lstC_ren rfl (by decide)) .nil)) (.box (by decide) rfl (blkAs_cells (.sm rfl (.sm rfl .nil))) .nil)))))
abbrev Z60 (l_ : (List (Ar59 TVal))) (v21 : Int) (d_ : TDoc) (x_ : TNode) (F_ : Nat → (List Int) → Int → Int → Option (List Int)) (o : (List Int)) : Nat → St → Prop := fun k s => ∃ (out4 : (List Int)), ∃ (next1 : Int), ∃ (v36 : Int), ∃ (zout4 : Bool), (zout4 = true → out4 = []) ∧ F_ k out4 next1 v36 = some o ∧ s = ⟨(ue [(36, (I v36)), (35, (I (x_.Kids.length : Int))), (34, (.c (.ro false 1 (x_.Kids.map eI)))), (21, (I v21)), (20, (I (d_.Nodes.length : Int))), (19, (.c (.ro false 6 (d_.Nodes.map e_TNode)))), (9, (I next1)), (8, (.c (.ref 3 6 0 0))), (7, (I v21)), (6, (.c (.fn (.func 48) [] [.ref 0 2 0 0, .ref 1 1 0 0]))), (5, (.c (.ref 1 1 0 0))), (2, (.c (.ref 0 2 0 0))), (1, (.c (.ro false 118 (l_.map (eA59 e_TVal)))))]), (upd (upd (upd (upd e0 0 (some (.cells 2 [(e_TDoc d_)]))) 1 (some (.cells 1 [[lstC zout4 2 1 out4.length]]))) 2 (lstB zout4 1 (out4.map eI))) 3 (some (.cells 6 [(e_TNode x_)]))), 4⟩
noncomputable def Zc (x_ : TNode) (d_ : TDoc) (l_ : (List (Ar59 TVal))) (v21 : Int) (K2_ : (List Int) → Option (List Int)) : Nat → (List Int) → Int → Int → Option (List Int)
 | 0, _, _, _ => none
 | k + 1, out4, next1, v36 =>
  if decide (v36 < (x_.Kids.length : Int)) then
   (at? x_.Kids v36).bind fun x_1 =>
   (Zx d_ l_ x_1).bind fun r_1 =>
   if r_1 then
    (Z20 x_1 next1 d_.Nodes d_.Quirks out4).bind fun r_2 =>
    Z21 v36 l_ v21 d_ x_ (Zc x_ d_ l_ v21 K2_ k) K2_ r_2.2 r_2.1
   else
    Z21 v36 l_ v21 d_ x_ (Zc x_ d_ l_ v21 K2_ k) K2_ out4 next1
  else
   K2_ out4
theorem Zae {mL : Int} {Q : AExit → St → Prop} {x_ : TNode} {d_ : TDoc} {l_ : (List (Ar59 TVal))} {v21 : Int} {K2_ : (List Int) → Option (List Int)} {k : Nat} {out4 : (List Int)} {next1 : Int} {v36 : Int} {zout4 : Bool} (hzout4 : zout4 = true → out4 = []) {o : (List Int)} (h : Zc x_ d_ l_ v21 K2_ k out4 next1 v36 = some o)
  (hK2 : Z5y l_ v21 d_ x_ K2_ o (Q (.exit 2)))
  (hr : ∀ s, Ends a23.results 0 (Z11 o) .ret s → Q .ret s) :
  Sv Tryz.prog (GG mL) 0 (.loop a23_c2) Q ⟨(ue [(36, (I v36)), (35, (I (x_.Kids.length : Int))), (34, (.c (.ro false 1 (x_.Kids.map eI)))), (21, (I v21)), (20, (I (d_.Nodes.length : Int))), (19, (.c (.ro false 6 (d_.Nodes.map e_TNode)))), (9, (I next1)), (8, (.c (.ref 3 6 0 0))), (7, (I v21)), (6, (.c (.fn (.func 48) [] [.ref 0 2 0 0, .ref 1 1 0 0]))), (5, (.c (.ref 1 1 0 0))), (2, (.c (.ref 0 2 0 0))), (1, (.c (.ro false 118 (l_.map (eA59 e_TVal)))))]), (upd (upd (upd (upd e0 0 (some (.cells 2 [(e_TDoc d_)]))) 1 (some (.cells 1 [[lstC zout4 2 1 out4.length]]))) 2 (lstB zout4 1 (out4.map eI))) 3 (some (.cells 6 [(e_TNode x_)]))), 4⟩ := by
 refine Sv.loop (I := Z60 l_ v21 d_ x_ (Zc x_ d_ l_ v21 K2_) o) (fun k s hI => ?_) ⟨out4, next1, v36, zout4, hzout4, h, rfl⟩
 clear h
 clear hzout4 zout4 v36 next1 out4
 obtain ⟨out4, next1, v36, zout4, hzout4, h, rfl⟩ := hI
 cases k with
 | zero => cases h
 | succ k =>
 rw [Zc] at h
 have hself : Z5x l_ v21 d_ x_ (Zc x_ d_ l_ v21 K2_ k) o (rnd 0 (Z60 l_ v21 d_ x_ (Zc x_ d_ l_ v21 K2_) o) k Q) := fun out4 next1 v36 zout4 hzout4 h s hw => ⟨_, k, hw, Nat.lt_succ_self k, out4, next1, v36, zout4, hzout4, h, rfl⟩
 refine ssr <| un1 (v := (B (decide (v36 < (x_.Kids.length : Int))))) rfl <| dnil <| Sv.seq ?_
 refine Sv.cnd rfl h (fun h => ?_) fun h => ?_
 ·refine Sv.skip <| Sv.seq <| Sv.block <| ssr ?_
  obtain ⟨x_1, hx3, h⟩ := bnd h
  refine un1 (v := (.c (.rop [cI x_1]))) (s_iaddr (e := eI) (xs := x_.Kids) rfl rfl hx3) <| un1 (v := (I x_1)) rfl <| un1 rfl <| dnil <| ssr <| un1 (v := (.agg (e_TDoc d_))) rfl <| un1 rfl <| un1 rfl ?_
  obtain ⟨r_1, hr2, h⟩ := bnd h
  refine un <| ac_pure (Z45 hr2) rfl rfl rfl <| dnil ?_
  refine Sv.cnd rfl h (fun h => ?_) fun h => ?_
  ·refine srg <| un1 rfl <| un1 rfl <| un1 rfl ?_
   obtain ⟨r_2, hr3, h⟩ := bnd h
   refine un <| acv_gen (bs := [1, 2]) («as» := [(I x_1), (I next1), (.c (.rop (e_TDoc d_))), (.c (.ref 1 1 0 0))]) (h2 := (upd _ 0 none)) (h1 := (upd (upd e0 1 (some (.cells 1 [[lstC zout4 2 1 out4.length]]))) 2 (lstB zout4 1 (out4.map eI)))) rfl (by kernel_rfl) (Z5v hzout4 hr3) rfl (.cons (avAs_free rfl) (.cons (avAs_free rfl) (.cons (.c (ref_ro rfl (gone rfl) (.sm rfl (.sm rfl .nil)) rfl)) (.cons (.c (.ref rfl (by decide))) .nil)))) (hsub_none (hsub_refl _)) (.cons rfl (.cons rfl (.nil _))) hcs (by decide) (by decide) (.cons (avAs_free rfl) (.cons (avAs_free rfl) (.cons (avAs_free rfl) (.cons (.c (.ref rfl (by decide))) .nil)))) (.row (by decide) rfl (fr_map fun _ => rfl) (.box (by decide) rfl (blkAs_cells (.cons (lstC_ren rfl (by decide)) .nil)) .nil)) ?_
   rintro _ _ _ hn ⟨z_, hz_, rfl, rfl, rfl⟩
   refine ⟨.inr ⟨(by cases z_ <;> rfl), (.row (cl_map fun _ => rfl) (.box (by cases z_ <;> rfl) .nil))⟩, (upd (upd (rem [1, 2] _) 1 (some (.cells 1 [[lstC z_ 4 1 r_2.2.length]]))) 4 (lstB z_ 1 (r_2.2.map eI))), fun hbd => (m3_cons (m3_row rfl (fr_map fun _ => rfl)) (m3_cons (m3_box rfl (by cases z_ <;> rfl)) (m3_rem (in_cons (by decide) (in_cons (by decide) (in_nil _))) (.cons (by decide) (.cons (by decide) .nil)) hbd))), (I r_2.1), 5, (by cases z_ <;> rfl), rfl, ?_⟩
   refine un1 rfl <| dnil ?_
   exact Sv.weak (wcn [0, 1, 4, 3] rfl (.cf rfl rfl (.cf rfl rfl (.cf rfl rfl (.cf rfl rfl (.cf rfl rfl (.cf rfl rfl (.cf rfl rfl (.cr rfl rfl rfl (.cf rfl rfl (.cons rfl (.c (fn_as .nil (.cons (.ref rfl (by decide)) (.cons (.ref rfl (by decide)) .nil)))) (.cr rfl rfl rfl (.cr rfl rfl rfl (.cf rfl rfl .nil))))))))))))) (.box (by decide) rfl (blkAs_cells (.sm rfl (.sm rfl (.sm rfl (.sm rfl (.sm rfl (.sm rfl .nil))))))) (.row (by decide) rfl (fr_map fun _ => rfl) (.box (by decide) rfl (blkAs_cells (.cons (lstC_ren rfl (by decide)) .nil)) (.box (by decide) rfl (blkAs_cells (.sm rfl (.sm rfl .nil))) .nil))))) (Z5z hz_ h hself hK2 hr)
  ·refine Sv.skip ?_
   exact Sv.weak (wcn [0, 1, 2, 3] rfl (.cf rfl rfl (.cf rfl rfl (.cf rfl rfl (.cf rfl rfl (.cf rfl rfl (.cf rfl rfl (.cf rfl rfl (.cr rfl rfl rfl (.cf rfl rfl (.cons rfl (.c (fn_as .nil (.cons (.ref rfl (by decide)) (.cons (.ref rfl (by decide)) .nil)))) (.cr rfl rfl rfl (.cr rfl rfl rfl (.cf rfl rfl .nil))))))))))))) (.box (by decide) rfl (blkAs_cells (.sm rfl (.sm rfl (.sm rfl (.sm rfl (.sm rfl (.sm rfl .nil))))))) (.row (by decide) rfl (fr_map fun _ => rfl) (.box (by decide) rfl (blkAs_cells (.cons (lstC_ren rfl (by decide)) .nil)) (.box (by decide) rfl (blkAs_cells (.sm rfl (.sm rfl .nil))) .nil))))) (Z5z hzout4 h hself hK2 hr)
 ·refine Sv.exit ?_
  exact hK2 out4 zout4 hzout4 h _ (wcn [0, 1, 2, 3] rfl (.cf rfl rfl (.cf rfl rfl (.cf rfl rfl (.cr rfl rfl rfl (.cf rfl rfl (.cons rfl (.c (fn_as .nil (.cons (.ref rfl (by decide)) (.cons (.ref rfl (by decide)) .nil)))) (.cr rfl rfl rfl (.cr rfl rfl rfl (.cf rfl rfl .nil))))))))) (.box (by decide) rfl (blkAs_cells (.sm rfl (.sm rfl (.sm rfl (.sm rfl (.sm rfl (.sm rfl .nil))))))) (.row (by decide) rfl (fr_map fun _ => rfl) (.box (by decide) rfl (blkAs_cells (.cons (lstC_ren rfl (by decide)) .nil)) (.box (by decide) rfl (blkAs_cells (.sm rfl (.sm rfl .nil))) .nil)))))
abbrev Zaf (mL : Int) (Q : AExit → St → Prop) : AExit → St → Prop := AThen (Sv Tryz.prog (GG mL) 0 a23_c4 Q) Q
abbrev Z61 (mL : Int) (Q : AExit → St → Prop) : AExit → St → Prop := ABlock 1 (Zaf mL Q)
noncomputable def Zm (v21 : Int) (d_ : TDoc) (l_ : (List (Ar59 TVal))) (self : (List Int) → Int → Option (List Int)) (K0_ : (List Int) → Option (List Int)) (out7 : (List Int)) (v57 : Bool) : Option (List Int) :=
 if v57 then
  (Z20 v21 1 d_.Nodes d_.Quirks out7).bind fun r_3 =>
  Z1i v21 l_ d_ self K0_ r_3.2
 else
  Z1i v21 l_ d_ self K0_ out7
theorem Z62 {mL : Int} {Q : AExit → St → Prop} {v21 : Int} {d_ : TDoc} {l_ : (List (Ar59 TVal))} {self : (List Int) → Int → Option (List Int)} {K0_ : (List Int) → Option (List Int)} {out7 : (List Int)} {v57 : Bool} {zout7 : Bool} (hzout7 : zout7 = true → out7 = []) {o : (List Int)} (h : Zm v21 d_ l_ self K0_ out7 v57 = some o)
  (hself : Z38 l_ d_ self o (Q .normal))
  (hK0 : Z39 K0_ o (Q (.exit 0)))
  (hr : ∀ s, Ends a23.results 0 (Z11 o) .ret s → Q .ret s) :
  Sv Tryz.prog (GG mL) 0 a23_c3 (Z61 mL Q) ⟨(ue [(57, (B v57)), (21, (I v21)), (20, (I (d_.Nodes.length : Int))), (19, (.c (.ro false 6 (d_.Nodes.map e_TNode)))), (7, (I v21)), (6, (.c (.fn (.func 48) [] [.ref 0 2 0 0, .ref 1 1 0 0]))), (5, (.c (.ref 1 1 0 0))), (2, (.c (.ref 0 2 0 0))), (1, (.c (.ro false 118 (l_.map (eA59 e_TVal)))))]), (upd (upd (upd e0 0 (some (.cells 2 [(e_TDoc d_)]))) 1 (some (.cells 1 [[lstC zout7 2 1 out7.length]]))) 2 (lstB zout7 1 (out7.map eI))), 3⟩ := by
 unfold Zm at h
 refine Sv.cnd rfl h (fun h => ?_) fun h => ?_
 ·refine srg <| un1 rfl <| un1 rfl ?_
  obtain ⟨r_3, hr4, h⟩ := bnd h
  refine un <| acv_gen (bs := [1, 2]) («as» := [(I v21), (I 1), (.c (.rop (e_TDoc d_))), (.c (.ref 1 1 0 0))]) (h2 := (upd _ 0 none)) (h1 := (upd (upd e0 1 (some (.cells 1 [[lstC zout7 2 1 out7.length]]))) 2 (lstB zout7 1 (out7.map eI)))) rfl (by kernel_rfl) (Z5v hzout7 hr4) rfl (.cons (avAs_free rfl) (.cons (avAs_free rfl) (.cons (.c (ref_ro rfl (gone rfl) (.sm rfl (.sm rfl .nil)) rfl)) (.cons (.c (.ref rfl (by decide))) .nil)))) (hsub_none (hsub_refl _)) (.cons rfl (.cons rfl (.nil _))) hcs (by decide) (by decide) (.cons (avAs_free rfl) (.cons (avAs_free rfl) (.cons (avAs_free rfl) (.cons (.c (.ref rfl (by decide))) .nil)))) (.row (by decide) rfl (fr_map fun _ => rfl) (.box (by decide) rfl (blkAs_cells (.cons (lstC_ren rfl (by decide)) .nil)) .nil)) ?_
  rintro _ _ _ hn ⟨z_1, hz_1, rfl, rfl, rfl⟩
  refine ⟨.inr ⟨(by cases z_1 <;> rfl), (.row (cl_map fun _ => rfl) (.box (by cases z_1 <;> rfl) .nil))⟩, (upd (upd (rem [1, 2] _) 1 (some (.cells 1 [[lstC z_1 3 1 r_3.2.length]]))) 3 (lstB z_1 1 (r_3.2.map eI))), fun hbd => (m3_cons (m3_row rfl (fr_map fun _ => rfl)) (m3_cons (m3_box rfl (by cases z_1 <;> rfl)) (m3_rem (in_cons (by decide) (in_cons (by decide) (in_nil _))) (.cons (by decide) (.cons (by decide) .nil)) hbd))), (I r_3.1), 4, (by cases z_1 <;> rfl), rfl, ?_⟩
  refine dnil ?_
  exact Sv.weak (wcn [0, 1, 3] rfl (.cf rfl rfl (.cf rfl rfl (.cf rfl rfl (.cons rfl (.c (fn_as .nil (.cons (.ref rfl (by decide)) (.cons (.ref rfl (by decide)) .nil)))) (.cr rfl rfl rfl (.cr rfl rfl rfl (.cf rfl rfl .nil))))))) (.row (by decide) rfl (fr_map fun _ => rfl) (.box (by decide) rfl (blkAs_cells (.cons (lstC_ren rfl (by decide)) .nil)) (.box (by decide) rfl (blkAs_cells (.sm rfl (.sm rfl .nil))) .nil)))) (Z5w hz_1 h hself hK0 hr)
 ·refine Sv.skip ?_
  exact Sv.weak (wcn [0, 1, 2] rfl (.cf rfl rfl (.cf rfl rfl (.cf rfl rfl (.cons rfl (.c (fn_as .nil (.cons (.ref rfl (by decide)) (.cons (.ref rfl (by decide)) .nil)))) (.cr rfl rfl rfl (.cr rfl rfl rfl (.cf rfl rfl .nil))))))) (.row (by decide) rfl (fr_map fun _ => rfl) (.box (by decide) rfl (blkAs_cells (.cons (lstC_ren rfl (by decide)) .nil)) (.box (by decide) rfl (blkAs_cells (.sm rfl (.sm rfl .nil))) .nil)))) (Z5w hzout7 h hself hK0 hr)
noncomputable def Z22 (x_ : TNode) (d_ : TDoc) (l_ : (List (Ar59 TVal))) (v21 : Int) (self : (List Int) → Int → Option (List Int)) (K0_ : (List Int) → Option (List Int)) (out3 : (List Int)) (next : Int) : Option (List Int) :=
 lim fun kk => Zc x_ d_ l_ v21 (fun (out5 : (List Int)) => 
   if decide (x_.Parent < 0) then
    (Zx d_ l_ v21).bind fun r_4 =>
    Zm v21 d_ l_ self K0_ out5 r_4
   else
    Zm v21 d_ l_ self K0_ out5 false) kk out3 next 0
theorem Z63 {mL : Int} {Q : AExit → St → Prop} {x_ : TNode} {d_ : TDoc} {l_ : (List (Ar59 TVal))} {v21 : Int} {self : (List Int) → Int → Option (List Int)} {K0_ : (List Int) → Option (List Int)} {out3 : (List Int)} {next : Int} {zout3 : Bool} (hzout3 : zout3 = true → out3 = []) {o : (List Int)} (h : Z22 x_ d_ l_ v21 self K0_ out3 next = some o)
  (hself : Z38 l_ d_ self o (Q .normal))
  (hK0 : Z39 K0_ o (Q (.exit 0)))
  (hr : ∀ s, Ends a23.results 0 (Z11 o) .ret s → Q .ret s) :
  Sv Tryz.prog (GG mL) 0 a23_c0 (Z61 mL Q) ⟨(ue [(21, (I v21)), (20, (I (d_.Nodes.length : Int))), (19, (.c (.ro false 6 (d_.Nodes.map e_TNode)))), (9, (I next)), (8, (.c (.ref 3 6 0 0))), (7, (I v21)), (6, (.c (.fn (.func 48) [] [.ref 0 2 0 0, .ref 1 1 0 0]))), (5, (.c (.ref 1 1 0 0))), (2, (.c (.ref 0 2 0 0))), (1, (.c (.ro false 118 (l_.map (eA59 e_TVal)))))]), (upd (upd (upd (upd e0 0 (some (.cells 2 [(e_TDoc d_)]))) 1 (some (.cells 1 [[lstC zout3 2 1 out3.length]]))) 2 (lstB zout3 1 (out3.map eI))) 3 (some (.cells 6 [(e_TNode x_)]))), 4⟩ := by
 unfold Z22 at h
 refine Sv.seq <| ssr <| un1 (v := (.c (.ref 3 6 0 5))) rfl <| un1 (v := (.c (.ro false 1 (x_.Kids.map eI)))) rfl <| un1 (v := (I (x_.Kids.length : Int))) (s_len (e := eI) (xs := x_.Kids) rfl) <| un1 rfl <| dnil <| Sv.block ?_
 obtain ⟨kk, h⟩ := lim_some h
 refine Sv.weak (wcn [0, 1, 2, 3] rfl (.cf rfl rfl (.cf rfl rfl (.cf rfl rfl (.cf rfl rfl (.cf rfl rfl (.cf rfl rfl (.cf rfl rfl (.cr rfl rfl rfl (.cf rfl rfl (.cons rfl (.c (fn_as .nil (.cons (.ref rfl (by decide)) (.cons (.ref rfl (by decide)) .nil)))) (.cr rfl rfl rfl (.cr rfl rfl rfl (.cf rfl rfl .nil))))))))))))) (.box (by decide) rfl (blkAs_cells (.sm rfl (.sm rfl (.sm rfl (.sm rfl (.sm rfl (.sm rfl .nil))))))) (.row (by decide) rfl (fr_map fun _ => rfl) (.box (by decide) rfl (blkAs_cells (.cons (lstC_ren rfl (by decide)) .nil)) (.box (by decide) rfl (blkAs_cells (.sm rfl (.sm rfl .nil))) .nil))))) (Zae hzout3 h ?_ hr)
 ·intro out5 zout5 hzout5 h _ hw1
  refine Sv.weak hw1 <| ssr <| un1 (v := (.c (.ref 3 6 0 4))) rfl <| un1 (v := (I x_.Parent)) rfl <| un1 (v := (B (decide (x_.Parent < 0)))) rfl <| un1 rfl ?_
  refine spl h (fun h => ?_) fun h => ?_
  ·refine gt rfl <| a1 (v := (.agg (e_TDoc d_))) rfl <| gt rfl <| a1 rfl <| gt rfl <| a1 rfl ?_
   obtain ⟨r_4, hr5, h⟩ := bnd h
   refine gt rfl <| ac_pure (Z45 hr5) rfl rfl rfl <| un1 (v := (B r_4)) rfl <| dnil ?_
   exact Sv.weak (wcn [0, 1, 2] rfl (.cf rfl rfl (.cf rfl rfl (.cf rfl rfl (.cf rfl rfl (.cf rfl rfl (.cons rfl (.c (fn_as .nil (.cons (.ref rfl (by decide)) (.cons (.ref rfl (by decide)) .nil)))) (.cr rfl rfl rfl (.cr rfl rfl rfl (.cf rfl rfl .nil))))))))) (.row (by decide) rfl (fr_map fun _ => rfl) (.box (by decide) rfl (blkAs_cells (.cons (lstC_ren rfl (by decide)) .nil)) (.box (by decide) rfl (blkAs_cells (.sm rfl (.sm rfl .nil))) .nil)))) (Z62 hzout5 h hself hK0 hr)
  ·refine gs rfl rfl <| gs rfl rfl <| gs rfl rfl <| gs rfl rfl <| un1 (v := (B false)) rfl <| dnil ?_
   exact Sv.weak (wcn [0, 1, 2] rfl (.cf rfl rfl (.cf rfl rfl (.cf rfl rfl (.cf rfl rfl (.cf rfl rfl (.cons rfl (.c (fn_as .nil (.cons (.ref rfl (by decide)) (.cons (.ref rfl (by decide)) .nil)))) (.cr rfl rfl rfl (.cr rfl rfl rfl (.cf rfl rfl .nil))))))))) (.row (by decide) rfl (fr_map fun _ => rfl) (.box (by decide) rfl (blkAs_cells (.cons (lstC_ren rfl (by decide)) .nil)) (.box (by decide) rfl (blkAs_cells (.sm rfl (.sm rfl .nil))) .nil)))) (Z62 hzout5 h hself hK0 hr)
abbrev Z64 (l_ : (List (Ar59 TVal))) (d_ : TDoc) (F_ : Nat → (List Int) → Int → Option (List Int)) (o : (List Int)) : Nat → St → Prop := fun k s => ∃ (out : (List Int)), ∃ (v21 : Int), ∃ (zout : Bool), (zout = true → out = []) ∧ F_ k out v21 = some o ∧ s = ⟨(ue [(21, (I v21)), (20, (I (d_.Nodes.length : Int))), (19, (.c (.ro false 6 (d_.Nodes.map e_TNode)))), (6, (.c (.fn (.func 48) [] [.ref 0 2 0 0, .ref 1 1 0 0]))), (5, (.c (.ref 1 1 0 0))), (2, (.c (.ref 0 2 0 0))), (1, (.c (.ro false 118 (l_.map (eA59 e_TVal)))))]), (upd (upd (upd e0 0 (some (.cells 2 [(e_TDoc d_)]))) 1 (some (.cells 1 [[lstC zout 2 1 out.length]]))) 2 (lstB zout 1 (out.map eI))), 3⟩
noncomputable def Zd (d_ : TDoc) (l_ : (List (Ar59 TVal))) (K0_ : (List Int) → Option (List Int)) : Nat → (List Int) → Int → Option (List Int)
 | 0, _, _ => none
 | k + 1, out, v21 =>
  if decide (v21 < (d_.Nodes.length : Int)) then
   (at? d_.Nodes v21).bind fun x_ =>
   (Z1y x_ [115, 116, 97, 114, 116]).bind fun r_ =>
   if (!r_.2) then
    Z22 x_ d_ l_ v21 (Zd d_ l_ K0_ k) K0_ out 1
   else
    Z22 x_ d_ l_ v21 (Zd d_ l_ K0_ k) K0_ out r_.1
  else
   K0_ out
theorem Zag {mL : Int} {Q : AExit → St → Prop} {d_ : TDoc} {l_ : (List (Ar59 TVal))} {K0_ : (List Int) → Option (List Int)} {k : Nat} {out : (List Int)} {v21 : Int} {zout : Bool} (hzout : zout = true → out = []) {o : (List Int)} (h : Zd d_ l_ K0_ k out v21 = some o)
  (hK0 : Z39 K0_ o (Q (.exit 0)))
  (hr : ∀ s, Ends a23.results 0 (Z11 o) .ret s → Q .ret s) :
  Sv Tryz.prog (GG mL) 0 (.loop a23_c5) Q ⟨(ue [(21, (I v21)), (20, (I (d_.Nodes.length : Int))), (19, (.c (.ro false 6 (d_.Nodes.map e_TNode)))), (6, (.c (.fn (.func 48) [] [.ref 0 2 0 0, .ref 1 1 0 0]))), (5, (.c (.ref 1 1 0 0))), (2, (.c (.ref 0 2 0 0))), (1, (.c (.ro false 118 (l_.map (eA59 e_TVal)))))]), (upd (upd (upd e0 0 (some (.cells 2 [(e_TDoc d_)]))) 1 (some (.cells 1 [[lstC zout 2 1 out.length]]))) 2 (lstB zout 1 (out.map eI))), 3⟩ := by
 refine Sv.loop (I := Z64 l_ d_ (Zd d_ l_ K0_) o) (fun k s hI => ?_) ⟨out, v21, zout, hzout, h, rfl⟩
 clear h
 clear hzout zout v21 out
 obtain ⟨out, v21, zout, hzout, h, rfl⟩ := hI
 cases k with
 | zero => cases h
 | succ k =>
 rw [Zd] at h
 have hself : Z38 l_ d_ (Zd d_ l_ K0_ k) o (rnd 0 (Z64 l_ d_ (Zd d_ l_ K0_) o) k Q) := fun out v21 zout hzout h s hw => ⟨_, k, hw, Nat.lt_succ_self k, out, v21, zout, hzout, h, rfl⟩
 refine ssr <| un1 (v := (B (decide (v21 < (d_.Nodes.length : Int))))) rfl <| dnil <| Sv.seq ?_
 refine Sv.cnd rfl h (fun h => ?_) fun h => ?_
 ·refine Sv.skip <| Sv.seq <| Sv.block <| ssr <| un1 rfl ?_
  obtain ⟨x_, hx2, h⟩ := bnd h
  refine un1 (v := (.c (.rop (e_TNode x_)))) (s_iaddr (e := e_TNode) (xs := d_.Nodes) rfl rfl hx2) <| un1 (v := (.agg (e_TNode x_))) rfl <| un <| a2v (v := (.c (.ref 3 6 0 0))) (h' := upd _ 3 (some (.cells 6 [[cI 0, .str [], .ro true 2 [], .str [], cI 0, .ro true 1 []]]))) (n' := 4) rfl rfl hcs <| un1 rfl <| un <| a2n (h' := upd _ 3 (some (.cells 6 [(e_TNode x_)]))) (n' := 4) rfl rfl hcs <| dnil <| ssr <| un1 (v := (.agg (e_TNode x_))) rfl ?_
  obtain ⟨r_, hr1, h⟩ := bnd h
  refine un <| ac_pure (Z5r hr1) rfl rfl rfl <| un1 rfl <| un1 (v := (I r_.1)) rfl <| un1 (v := (B r_.2)) rfl <| un1 rfl <| un1 rfl <| dnil <| Sv.seq <| ssr <| un1 rfl <| un1 (v := (B (!r_.2))) rfl <| dnil ?_
  refine Sv.cnd rfl h (fun h => ?_) fun h => ?_
  ·refine srg <| un1 rfl <| dnil ?_
   exact Sv.weak (wcn [0, 1, 2, 3] rfl (.cf rfl rfl (.cf rfl rfl (.cf rfl rfl (.cf rfl rfl (.cr rfl rfl rfl (.cf rfl rfl (.cons rfl (.c (fn_as .nil (.cons (.ref rfl (by decide)) (.cons (.ref rfl (by decide)) .nil)))) (.cr rfl rfl rfl (.cr rfl rfl rfl (.cf rfl rfl .nil)))))))))) (.box (by decide) rfl (blkAs_cells (.sm rfl (.sm rfl (.sm rfl (.sm rfl (.sm rfl (.sm rfl .nil))))))) (.row (by decide) rfl (fr_map fun _ => rfl) (.box (by decide) rfl (blkAs_cells (.cons (lstC_ren rfl (by decide)) .nil)) (.box (by decide) rfl (blkAs_cells (.sm rfl (.sm rfl .nil))) .nil))))) (Z63 hzout h hself hK0 hr)
  ·refine Sv.skip ?_
   exact Sv.weak (wcn [0, 1, 2, 3] rfl (.cf rfl rfl (.cf rfl rfl (.cf rfl rfl (.cf rfl rfl (.cr rfl rfl rfl (.cf rfl rfl (.cons rfl (.c (fn_as .nil (.cons (.ref rfl (by decide)) (.cons (.ref rfl (by decide)) .nil)))) (.cr rfl rfl rfl (.cr rfl rfl rfl (.cf rfl rfl .nil)))))))))) (.box (by decide) rfl (blkAs_cells (.sm rfl (.sm rfl (.sm rfl (.sm rfl (.sm rfl (.sm rfl .nil))))))) (.row (by decide) rfl (fr_map fun _ => rfl) (.box (by decide) rfl (blkAs_cells (.cons (lstC_ren rfl (by decide)) .nil)) (.box (by decide) rfl (blkAs_cells (.sm rfl (.sm rfl .nil))) .nil))))) (Z63 hzout h hself hK0 hr)
 ·refine Sv.exit ?_
  exact hK0 out zout hzout h _ (wcn [1, 2] rfl (.cr rfl rfl rfl .nil) (.row (by decide) rfl (fr_map fun _ => rfl) (.box (by decide) rfl (blkAs_cells (.cons (lstC_ren rfl (by decide)) .nil)) .nil)))
/-- clerestory/count.numbers -/
noncomputable def Z23 (d_ : TDoc) (l_ : (List (Ar59 TVal))) : Option (List Int) :=
 (mkl? 8 (d_.Nodes.length : Int) (d_.Nodes.length : Int) (0 : Int)).bind fun row =>
 lim fun kk1 => Zd d_ l_ (fun (out1 : (List Int)) => 
   some out1) kk1 row 0
theorem Z65 {mL : Int} {d_ : TDoc} {l_ : (List (Ar59 TVal))} {r : (List Int)} (h : Z23 d_ l_ = some r) : ACalls Tryz.prog (GG mL) 23 [(.agg (e_TDoc d_)), (.c (.ro false 118 (l_.map (eA59 e_TVal))))] e0 0 (Z11 r) := by
 refine acalls_of_sv hmix c23 (R := Z11 r) ?_
 unfold Z23 at h
 refine ssr <| un <| a2v (v := (.c (.ref 0 2 0 0))) (h' := upd _ 0 (some (.cells 2 [(e_TDoc d_)]))) (n' := 1) rfl rfl hcs <| un1 rfl <| dnil <| ssr <| un1 (v := (.c (.ref 0 2 0 0))) rfl <| un1 (v := (.c (.ro false 6 (d_.Nodes.map e_TNode)))) rfl <| un1 (v := (I (d_.Nodes.length : Int))) (s_len (e := e_TNode) (xs := d_.Nodes) rfl) ?_
 obtain ⟨row, hx1, h⟩ := bnd h
 refine un <| a2mk (e := eI) rfl rfl hx1 (fun _ _ => (.sm rfl .nil)) <| un <| a2v (v := (.c (.ref 2 1 0 0))) (h' := upd _ 2 (some (.cells 1 [[.ro true 1 []]]))) (n' := 3) rfl rfl hcs <| un <| a2n (h' := upd _ 2 (some (.cells 1 [[lstC false 1 1 row.length]]))) (n' := 3) rfl rfl hcs <| dnil <| ssr <| un1 (v := (.c (.fn (.func 48) [] [.ref 0 2 0 0, .ref 2 1 0 0]))) rfl <| un1 rfl <| dnil <| Sv.seq <| ssr <| un1 (v := (.c (.ref 0 2 0 0))) rfl <| un1 (v := (.c (.ro false 6 (d_.Nodes.map e_TNode)))) rfl <| un1 (v := (I (d_.Nodes.length : Int))) (s_len (e := e_TNode) (xs := d_.Nodes) rfl) <| un1 rfl <| dnil <| Sv.block ?_
 obtain ⟨kk1, h⟩ := lim_some h
 refine Sv.weak (wcn [0, 2, 1] rfl (.cf rfl rfl (.cf rfl rfl (.cf rfl rfl (.cons rfl (.c (fn_as .nil (.cons (.ref rfl (by decide)) (.cons (.ref rfl (by decide)) .nil)))) (.cr rfl rfl rfl (.cr rfl rfl rfl (.cf rfl rfl .nil))))))) (.row (by decide) rfl (fr_map fun _ => rfl) (.box (by decide) rfl (blkAs_cells (.cons (lstC_ren rfl (by decide)) .nil)) (.box (by decide) rfl (blkAs_cells (.sm rfl (.sm rfl .nil))) .nil)))) (Zag hcs h ?_ (fun s hs => hs))
 ·intro out1 zout1 hzout1 h _ hw2
  refine Sv.weak hw2 <| ssr <| un1 (v := (lstV zout1 1 1 out1.length)) rfl <| un1 rfl <| dnil <| Sv.ret ?_
  replace h := Option.some.inj h
  subst h
  exact ⟨_, .refl _, _, rfl, ⟨upd e0 0 (some (lstV zout1 0 1 out1.length)), (upd e0 0 (lstB zout1 1 (out1.map eI))), 1⟩, (lstV zout1 0 1 out1.length), weak_canon2 [1] [0] (by decide) (by decide) nlz (.cons (by decide) .nil) (.cons rfl (.c (lsr rfl rfl)) .nil) (.row (by decide) rfl (fr_map fun _ => rfl) .nil), rfl, zout1, hzout1, rfl, rfl, rfl⟩
def a7 : AFunc := ⟨2, [(.tmp 4), (.tmp 5)], (sr [(oP 2 (.box (.tmp 0))), (oP 4 (.mov (.const (.c (.ro true 1 []))))), (oP 5 (.mov (kI 0)))]
 (.seq (sr [(oP 7 (.load true 2 (.tmp 2))), (mV 8 1), (oP 9 (.call 9 [(.tmp 7), (.tmp 8)])), (mV 6 9)]
 (sr [(mV 10 6), (oP 11 (.bin .neq (.tmp 10) (kI 0)))]
 (.cond (.tmp 11) (sr [(mV 12 6), (oP 4 (.mov (.const (.c (.ro true 1 []))))), (mV 5 12)]
 .ret) .skip)))
 (sr [(oP 13 (.load true 2 (.tmp 2))), (mV 14 1), (oP 15 (.call 23 [(.tmp 13), (.tmp 14)])), (mV 4 15), (oP 5 (.mov (kI 0)))]
 .ret)))⟩
theorem c7 : compFunc Tryz.prog 7 = some a7 := by kernel_rfl
def Z66 (r : ((List Int) × Int)) : AV → Heap → Nat → Prop := fun v h' n' => ∃ z0 : Bool, (z0 = true → r.1 = []) ∧ v = (.tup [(lstV z0 0 1 r.1.length), (I r.2)]) ∧ (h' = (upd e0 0 (lstB z0 1 (r.1.map eI)))) ∧ n' = 1
/-- clerestory/count.Numbers -/
noncomputable def Z3a (d_ : TDoc) (l_ : (List (Ar59 TVal))) : Option ((List Int) × Int) :=
 (Z1g d_ l_).bind fun r_ =>
 if (!decide (r_ = 0)) then
  some (([] : List Int), r_)
 else
  (Z23 d_ l_).bind fun r_1 =>
  some (r_1, 0)
theorem Zah {mL : Int} {d_ : TDoc} {l_ : (List (Ar59 TVal))} {r : ((List Int) × Int)} (h : Z3a d_ l_ = some r) : ACalls Tryz.prog (GG mL) 7 [(.agg (e_TDoc d_)), (.c (.ro false 118 (l_.map (eA59 e_TVal))))] e0 0 (Z66 r) := by
 refine acalls_of_sv hmix c7 (R := Z66 r) ?_
 unfold Z3a at h
 refine ssr <| un <| a2v (v := (.c (.ref 0 2 0 0))) (h' := upd _ 0 (some (.cells 2 [(e_TDoc d_)]))) (n' := 1) rfl rfl hcs <| un1 rfl <| un1 rfl <| dnil <| Sv.seq <| ssr <| un1 (v := (.agg (e_TDoc d_))) rfl <| un1 rfl ?_
 obtain ⟨r_, hr1, h⟩ := bnd h
 refine un <| ac_pure (Z44 hr1) rfl rfl rfl <| un1 rfl <| dnil <| ssr <| un1 rfl <| un1 (v := (B (!decide (r_ = 0)))) rfl <| dnil ?_
 refine Sv.cnd rfl h (fun h => ?_) fun h => ?_
 ·refine ssr <| un1 rfl <| un1 rfl <| un1 rfl <| dnil <| Sv.ret ?_
  replace h := Option.some.inj h
  subst h
  exact ⟨_, .refl _, _, rfl, ⟨upd e0 0 (some (.tup [(lstV true 0 1 ([] : List Int).length), (I r_)])), (upd e0 0 (lstB true 1 (([] : List Int).map eI))), 1⟩, (.tup [(lstV true 0 1 ([] : List Int).length), (I r_)]), weak_canon2 [1000] [0] (by decide) (by decide) nlz (.cons (by decide) .nil) (.cons rfl (avAs_tup (.cons (.c (.same rfl)) (.cons (avAs_free rfl) .nil))) .nil) (.non (by decide) .nil), rfl, true, (fun _ => rfl), rfl, rfl, rfl⟩
 ·refine Sv.skip <| ssr <| un1 (v := (.agg (e_TDoc d_))) rfl <| un1 rfl ?_
  obtain ⟨r_1, hr2, h⟩ := bnd h
  refine un <| ac_gen (bs := []) («as» := [(.agg (e_TDoc d_)), (.c (.ro false 118 (l_.map (eA59 e_TVal))))]) (h2 := _) (h1 := e0) (Z65 hr2) rfl (.cons (avAs_free rfl) (.cons (avAs_free rfl) .nil)) (hsub_refl _) (.nil _) (fun _ => rfl) (by decide) (by decide) (.cons (avAs_free rfl) (.cons (avAs_free rfl) .nil)) .nil ?_
  rintro _ _ _ hn ⟨z_, hz_, rfl, rfl, rfl⟩
  refine ⟨.inl rfl, (upd (rem [] _) 1 (lstB z_ 1 (r_1.map eI))), fun hbd => (m3_cons (m3_row rfl (fr_map fun _ => rfl)) (m3_rem (in_nil _) (.cons (by decide) .nil) hbd)), (lstV z_ 1 1 r_1.length), 2, (by cases z_ <;> rfl), rfl, ?_⟩
  refine un1 rfl <| un1 rfl <| dnil <| Sv.ret ?_
  replace h := Option.some.inj h
  subst h
  exact ⟨_, .refl _, _, rfl, ⟨upd e0 0 (some (.tup [(lstV z_ 0 1 r_1.length), (I 0)])), (upd e0 0 (lstB z_ 1 (r_1.map eI))), 1⟩, (.tup [(lstV z_ 0 1 r_1.length), (I 0)]), weak_canon2 [1] [0] (by decide) (by decide) nlz (.cons (by decide) .nil) (.cons rfl (avAs_tup (.cons (.c (lsr rfl rfl)) (.cons (avAs_free rfl) .nil))) .nil) (.row (by decide) rfl (fr_map fun _ => rfl) .nil), rfl, z_, hz_, rfl, rfl, rfl⟩
def a8_c0 : ACode := (.region [(oP 55 (.bin .add (.tmp 24) (kI 1))), (mV 24 55)])
def a8_c1 : ACode := (sr [(oP 25 (.bin .lss (.tmp 24) (.tmp 23)))]
 (.seq (.cond (.tmp 25) .skip (.exit 0))
 (.seq (.block 1 (sr [(mV 26 24), (oP 27 (.iaddr 1 (.tmp 22) (.tmp 24))), (oP 28 (.load false 1 (.tmp 27))), (mV 8 26), (mV 9 28)]
 (.seq (sr [(oP 29 (.load true 2 (.tmp 2))), (mV 30 1), (mV 31 8), (oP 32 (.call 24 [(.tmp 29), (.tmp 30), (.tmp 31)])), (oP 33 (.un .not (.tmp 32)))]
 (.cond (.tmp 33) (.exit 1) .skip))
 (sr [(mV 34 1), (mV 35 8), (oP 36 (.iaddr 118 (.tmp 34) (.tmp 35))), (oP 37 (.iaddrA 59 2 (.tmp 36) (kI 57))), (oP 38 (.faddr 1 (.tmp 37))), (oP 39 (.load false 1 (.tmp 38)))]
 (.block 2 (sr [(oP 41 (.bin .eql (.tmp 39) (kI 1))), (mV 40 41)]
 (.cond (.tmp 40) (.region [(mV 42 7), (mV 43 8), (mV 44 9), (oP 45 (.call 25 [(kI 1), (.tmp 44)])), (oP 46 (.iaddr 1 (.tmp 42) (.tmp 43))), (oN (.store 1 (.tmp 46) (.tmp 45)))]) (sr [(oP 48 (.bin .eql (.tmp 39) (kI 2))), (mV 47 48)]
 (.cond (.tmp 47) (.region [(mV 49 7), (mV 50 8), (mV 51 9), (oP 52 (.call 25 [(kI 2), (.tmp 51)])), (oP 53 (.bin .add (.tmp 52) (.const (.c (.str [46]))))), (oP 54 (.iaddr 1 (.tmp 49) (.tmp 50))), (oN (.store 1 (.tmp 54) (.tmp 53)))]) .skip)))))))))
 a8_c0)))
def a8 : AFunc := ⟨2, [(.tmp 4), (.tmp 5)], (sr [(oP 2 (.box (.tmp 0))), (oP 4 (.mov (.const (.c (.ro true 1 []))))), (oP 5 (.mov (kI 0)))]
 (.seq (sr [(oP 10 (.load true 2 (.tmp 2))), (mV 11 1), (oP 12 (.call 9 [(.tmp 10), (.tmp 11)])), (mV 6 12)]
 (sr [(mV 13 6), (oP 14 (.bin .neq (.tmp 13) (kI 0)))]
 (.cond (.tmp 14) (sr [(mV 15 6), (oP 4 (.mov (.const (.c (.ro true 1 []))))), (mV 5 15)]
 .ret) .skip)))
 (sr [(oP 16 (.faddr 0 (.tmp 2))), (oP 17 (.load false 1 (.tmp 16))), (oP 18 (.len (.tmp 17))), (oP 19 (.mksl 1 16 [(.str [])] (.tmp 18) (.tmp 18))), (mV 7 19)]
 (.seq (sr [(oP 20 (.load true 2 (.tmp 2))), (mV 21 1), (oP 22 (.call 23 [(.tmp 20), (.tmp 21)])), (oP 23 (.len (.tmp 22))), (oP 24 (.mov (kI 0)))]
 (.block 0 (.loop a8_c1)))
 (sr [(mV 56 7), (mV 4 56), (oP 5 (.mov (kI 0)))]
 .ret)))))⟩
theorem c8 : compFunc Tryz.prog 8 = some a8 := by kernel_rfl
def Z3b (r : (TT × Int)) : AV → Heap → Nat → Prop := fun v h' n' => ∃ z0 : Bool, (z0 = true → r.1 = []) ∧ v = (.tup [(lstV z0 0 1 r.1.length), (I r.2)]) ∧ (h' = (upd e0 0 (lstB z0 1 (r.1.map eStr)))) ∧ n' = 1
abbrev Z67 (l_ : (List (Ar59 TVal))) (r_1 : (List Int)) (d_ : TDoc) (F_ : TT → (List Int) → Int → Option (TT × Int)) (o : (TT × Int)) (R_ : St → Prop) : Prop := ∀ (out : TT) (v22 : (List Int)) (v24 : Int) (zout : Bool) (_ : zout = true → out = []) (zv22 : Bool) (_ : zv22 = true → v22 = []), F_ out v22 v24 = some o → ∀ s, Weak 0 s ⟨(ue [(24, (I v24)), (23, (I (r_1.length : Int))), (22, (lstV zv22 2 1 v22.length)), (7, (lstV zout 1 1 out.length)), (2, (.c (.ref 0 2 0 0))), (1, (.c (.ro false 118 (l_.map (eA59 e_TVal)))))]), (upd (upd (upd e0 0 (some (.cells 2 [(e_TDoc d_)]))) 1 (lstB zout 1 (out.map eStr))) 2 (lstB zv22 1 (v22.map eI))), 3⟩ → R_ s
abbrev Z68 (F_ : TT → Option (TT × Int)) (o : (TT × Int)) (R_ : St → Prop) : Prop := ∀ (out1 : TT) (zout1 : Bool) (_ : zout1 = true → out1 = []), F_ out1 = some o → ∀ s, Weak 0 s ⟨(upd e0 7 (some (lstV zout1 0 1 out1.length))), (upd e0 0 (lstB zout1 1 (out1.map eStr))), 1⟩ → R_ s
noncomputable def Z1j (v24 : Int) (l_ : (List (Ar59 TVal))) (r_1 : (List Int)) (d_ : TDoc) (self : TT → (List Int) → Int → Option (TT × Int)) (K0_ : TT → Option (TT × Int)) (out2 : TT) (v221 : (List Int)) : Option (TT × Int) :=
 self out2 v221 (wi (v24 + 1))
theorem Z3c {mL : Int} {Q : AExit → St → Prop} {v24 : Int} {l_ : (List (Ar59 TVal))} {r_1 : (List Int)} {d_ : TDoc} {self : TT → (List Int) → Int → Option (TT × Int)} {K0_ : TT → Option (TT × Int)} {out2 : TT} {v221 : (List Int)} {zout2 : Bool} (hzout2 : zout2 = true → out2 = []) {zv221 : Bool} (hzv221 : zv221 = true → v221 = []) {o : (TT × Int)} (h : Z1j v24 l_ r_1 d_ self K0_ out2 v221 = some o)
  (hself : Z67 l_ r_1 d_ self o (Q .normal))
  (hK0 : Z68 K0_ o (Q (.exit 0)))
  (hr : ∀ s, Ends a8.results 0 (Z3b o) .ret s → Q .ret s) :
  Sv Tryz.prog (GG mL) 0 a8_c0 Q ⟨(ue [(24, (I v24)), (23, (I (r_1.length : Int))), (22, (lstV zv221 2 1 v221.length)), (7, (lstV zout2 1 1 out2.length)), (2, (.c (.ref 0 2 0 0))), (1, (.c (.ro false 118 (l_.map (eA59 e_TVal)))))]), (upd (upd (upd e0 0 (some (.cells 2 [(e_TDoc d_)]))) 1 (lstB zout2 1 (out2.map eStr))) 2 (lstB zv221 1 (v221.map eI))), 3⟩ := by
 unfold Z1j at h
 refine srg <| un1 (v := (I (wi (v24 + 1)))) rfl <| un1 rfl <| dnil ?_
 exact hself out2 v221 (wi (v24 + 1)) zout2 hzout2 zv221 hzv221 h _ (wcn [0, 1, 2] rfl (.cf rfl rfl (.cf rfl rfl (.cons rfl (.c (lsr rfl rfl)) (.cons rfl (.c (lsr rfl rfl)) (.cr rfl rfl rfl (.cf rfl rfl .nil)))))) (.row (by decide) rfl (fr_map fun _ => rfl) (.row (by decide) rfl (fr_map fun _ => rfl) (.box (by decide) rfl (blkAs_cells (.sm rfl (.sm rfl .nil))) .nil))))
abbrev Z69 (l_ : (List (Ar59 TVal))) (r_1 : (List Int)) (d_ : TDoc) (F_ : Nat → TT → (List Int) → Int → Option (TT × Int)) (o : (TT × Int)) : Nat → St → Prop := fun k s => ∃ (out : TT), ∃ (v22 : (List Int)), ∃ (v24 : Int), ∃ (zout : Bool), (zout = true → out = []) ∧ ∃ (zv22 : Bool), (zv22 = true → v22 = []) ∧ F_ k out v22 v24 = some o ∧ s = ⟨(ue [(24, (I v24)), (23, (I (r_1.length : Int))), (22, (lstV zv22 2 1 v22.length)), (7, (lstV zout 1 1 out.length)), (2, (.c (.ref 0 2 0 0))), (1, (.c (.ro false 118 (l_.map (eA59 e_TVal)))))]), (upd (upd (upd e0 0 (some (.cells 2 [(e_TDoc d_)]))) 1 (lstB zout 1 (out.map eStr))) 2 (lstB zv22 1 (v22.map eI))), 3⟩
noncomputable def Z3 (r_1 : (List Int)) (d_ : TDoc) (l_ : (List (Ar59 TVal))) (K0_ : TT → Option (TT × Int)) : Nat → TT → (List Int) → Int → Option (TT × Int)
 | 0, _, _, _ => none
 | k + 1, out, v22, v24 =>
  if decide (v24 < (r_1.length : Int)) then
   (at? v22 v24).bind fun x_ =>
   (Zx d_ l_ v24).bind fun r_2 =>
   if (!r_2) then
    Z1j v24 l_ r_1 d_ (Z3 r_1 d_ l_ K0_ k) K0_ out v22
   else
    (at? l_ v24).bind fun x_1 =>
    if decide (x_1.a57.N = 1) then
     (Zk 1 x_).bind fun r_3 =>
     (at? out v24).bind fun x_2 =>
     Z1j v24 l_ r_1 d_ (Z3 r_1 d_ l_ K0_ k) K0_ (out.set v24.toNat r_3) v22
    else
     if decide (x_1.a57.N = 2) then
      (Zk 2 x_).bind fun r_4 =>
      (cat? r_4 [46]).bind fun r_5 =>
      (at? out v24).bind fun x_3 =>
      Z1j v24 l_ r_1 d_ (Z3 r_1 d_ l_ K0_ k) K0_ (out.set v24.toNat r_5) v22
     else
      Z1j v24 l_ r_1 d_ (Z3 r_1 d_ l_ K0_ k) K0_ out v22
  else
   K0_ out
theorem Zai {mL : Int} {Q : AExit → St → Prop} {r_1 : (List Int)} {d_ : TDoc} {l_ : (List (Ar59 TVal))} {K0_ : TT → Option (TT × Int)} {k : Nat} {out : TT} {v22 : (List Int)} {v24 : Int} {zout : Bool} (hzout : zout = true → out = []) {zv22 : Bool} (hzv22 : zv22 = true → v22 = []) {o : (TT × Int)} (h : Z3 r_1 d_ l_ K0_ k out v22 v24 = some o)
  (hK0 : Z68 K0_ o (Q (.exit 0)))
  (hr : ∀ s, Ends a8.results 0 (Z3b o) .ret s → Q .ret s) :
  Sv Tryz.prog (GG mL) 0 (.loop a8_c1) Q ⟨(ue [(24, (I v24)), (23, (I (r_1.length : Int))), (22, (lstV zv22 2 1 v22.length)), (7, (lstV zout 1 1 out.length)), (2, (.c (.ref 0 2 0 0))), (1, (.c (.ro false 118 (l_.map (eA59 e_TVal)))))]), (upd (upd (upd e0 0 (some (.cells 2 [(e_TDoc d_)]))) 1 (lstB zout 1 (out.map eStr))) 2 (lstB zv22 1 (v22.map eI))), 3⟩ := by
 refine Sv.loop (I := Z69 l_ r_1 d_ (Z3 r_1 d_ l_ K0_) o) (fun k s hI => ?_) ⟨out, v22, v24, zout, hzout, zv22, hzv22, h, rfl⟩
 clear h
 clear hzv22 hzout zv22 zout v24 v22 out
 obtain ⟨out, v22, v24, zout, hzout, zv22, hzv22, h, rfl⟩ := hI
 cases k with
 | zero => cases h
 | succ k =>
 rw [Z3] at h
 have hself : Z67 l_ r_1 d_ (Z3 r_1 d_ l_ K0_ k) o (rnd 0 (Z69 l_ r_1 d_ (Z3 r_1 d_ l_ K0_) o) k Q) := fun out v22 v24 zout hzout zv22 hzv22 h s hw => ⟨_, k, hw, Nat.lt_succ_self k, out, v22, v24, zout, hzout, zv22, hzv22, h, rfl⟩
 refine ssr <| un1 (v := (B (decide (v24 < (r_1.length : Int))))) rfl <| dnil <| Sv.seq ?_
 refine Sv.cnd rfl h (fun h => ?_) fun h => ?_
 ·refine Sv.skip <| Sv.seq <| Sv.block <| ssr <| un1 rfl ?_
  obtain ⟨x_, hx2, h⟩ := bnd h
  refine un1 (v := (.c (.ref 2 1 v24.toNat 0))) (s_iaddrL rfl rfl hzv22 hx2) <| un1 (v := (I x_)) (s_loadL (z := zv22) (e := eI) rfl rfl hzv22 hx2 rfl rfl) <| un1 rfl <| un1 rfl <| dnil <| Sv.seq <| ssr <| un1 (v := (.agg (e_TDoc d_))) rfl <| un1 rfl <| un1 rfl ?_
  obtain ⟨r_2, hr3, h⟩ := bnd h
  refine un <| ac_pure (Z45 hr3) rfl rfl rfl <| un1 (v := (B (!r_2))) rfl <| dnil ?_
  refine Sv.cnd rfl h (fun h => ?_) fun h => ?_
  ·refine Sv.exit ?_
   exact Sv.weak (wcn [0, 1, 2] rfl (.cf rfl rfl (.cf rfl rfl (.cons rfl (.c (lsr rfl rfl)) (.cons rfl (.c (lsr rfl rfl)) (.cr rfl rfl rfl (.cf rfl rfl .nil)))))) (.row (by decide) rfl (fr_map fun _ => rfl) (.row (by decide) rfl (fr_map fun _ => rfl) (.box (by decide) rfl (blkAs_cells (.sm rfl (.sm rfl .nil))) .nil)))) (Z3c hzout hzv22 h hself hK0 hr)
  ·refine Sv.skip <| ssr <| un1 rfl <| un1 rfl ?_
   obtain ⟨x_1, hx3, h⟩ := bnd h
   refine un1 (v := (.c (.rop [cI x_1.a0.Kind, cI x_1.a0.N, cI x_1.a1.Kind, cI x_1.a1.N, cI x_1.a2.Kind, cI x_1.a2.N, cI x_1.a3.Kind, cI x_1.a3.N, cI x_1.a4.Kind, cI x_1.a4.N, cI x_1.a5.Kind, cI x_1.a5.N, cI x_1.a6.Kind, cI x_1.a6.N, cI x_1.a7.Kind, cI x_1.a7.N, cI x_1.a8.Kind, cI x_1.a8.N, cI x_1.a9.Kind, cI x_1.a9.N, cI x_1.a10.Kind, cI x_1.a10.N, cI x_1.a11.Kind, cI x_1.a11.N, cI x_1.a12.Kind, cI x_1.a12.N, cI x_1.a13.Kind, cI x_1.a13.N, cI x_1.a14.Kind, cI x_1.a14.N, cI x_1.a15.Kind, cI x_1.a15.N, cI x_1.a16.Kind, cI x_1.a16.N, cI x_1.a17.Kind, cI x_1.a17.N, cI x_1.a18.Kind, cI x_1.a18.N, cI x_1.a19.Kind, cI x_1.a19.N, cI x_1.a20.Kind, cI x_1.a20.N, cI x_1.a21.Kind, cI x_1.a21.N, cI x_1.a22.Kind, cI x_1.a22.N, cI x_1.a23.Kind, cI x_1.a23.N, cI x_1.a24.Kind, cI x_1.a24.N, cI x_1.a25.Kind, cI x_1.a25.N, cI x_1.a26.Kind, cI x_1.a26.N, cI x_1.a27.Kind, cI x_1.a27.N, cI x_1.a28.Kind, cI x_1.a28.N, cI x_1.a29.Kind, cI x_1.a29.N, cI x_1.a30.Kind, cI x_1.a30.N, cI x_1.a31.Kind, cI x_1.a31.N, cI x_1.a32.Kind, cI x_1.a32.N, cI x_1.a33.Kind, cI x_1.a33.N, cI x_1.a34.Kind, cI x_1.a34.N, cI x_1.a35.Kind, cI x_1.a35.N, cI x_1.a36.Kind, cI x_1.a36.N, cI x_1.a37.Kind, cI x_1.a37.N, cI x_1.a38.Kind, cI x_1.a38.N, cI x_1.a39.Kind, cI x_1.a39.N, cI x_1.a40.Kind, cI x_1.a40.N, cI x_1.a41.Kind, cI x_1.a41.N, cI x_1.a42.Kind, cI x_1.a42.N, cI x_1.a43.Kind, cI x_1.a43.N, cI x_1.a44.Kind, cI x_1.a44.N, cI x_1.a45.Kind, cI x_1.a45.N, cI x_1.a46.Kind, cI x_1.a46.N, cI x_1.a47.Kind, cI x_1.a47.N, cI x_1.a48.Kind, cI x_1.a48.N, cI x_1.a49.Kind, cI x_1.a49.N, cI x_1.a50.Kind, cI x_1.a50.N, cI x_1.a51.Kind, cI x_1.a51.N, cI x_1.a52.Kind, cI x_1.a52.N, cI x_1.a53.Kind, cI x_1.a53.N, cI x_1.a54.Kind, cI x_1.a54.N, cI x_1.a55.Kind, cI x_1.a55.N, cI x_1.a56.Kind, cI x_1.a56.N, cI x_1.a57.Kind, cI x_1.a57.N, cI x_1.a58.Kind, cI x_1.a58.N]))) (s_iaddr (e := (eA59 e_TVal)) (xs := l_) rfl rfl hx3) <| un1 (v := (.c (.rop [cI x_1.a57.Kind, cI x_1.a57.N, cI x_1.a58.Kind, cI x_1.a58.N]))) rfl <| un1 (v := (.c (.rop [cI x_1.a57.N, cI x_1.a58.Kind, cI x_1.a58.N]))) rfl <| un1 (v := (I x_1.a57.N)) rfl <| dnil <| Sv.block <| ssr <| un1 (v := (B (decide (x_1.a57.N = 1)))) rfl <| un1 rfl <| dnil ?_
   refine Sv.cnd rfl h (fun h => ?_) fun h => ?_
   ·refine srg <| un1 rfl <| un1 rfl <| un1 rfl ?_
    obtain ⟨r_3, hr4, h⟩ := bnd h
    refine un <| ac_pure (Z2y hr4) rfl rfl rfl ?_
    obtain ⟨x_2, hx4, h⟩ := bnd h
    refine un1 (v := (.c (.ref 1 1 v24.toNat 0))) (s_iaddrL rfl rfl hzout hx4) <| un <| a2n (h' := upd _ 1 (lstB zout 1 ((out.set v24.toNat r_3).map eStr))) (n' := 3) rfl (s_storeL (e := eStr) (q' := r_3) rfl rfl hzout hx4 rfl rfl rfl (Nat.le_of_ble_eq_true rfl) rfl) hcs ?_
    try rw [len_set out v24.toNat r_3]
    refine dnil ?_
    exact Sv.weak (wcn [0, 1, 2] rfl (.cf rfl rfl (.cf rfl rfl (.cons rfl (.c (lsr rfl rfl)) (.cons rfl (.c (lsr rfl rfl)) (.cr rfl rfl rfl (.cf rfl rfl .nil)))))) (.row (by decide) rfl (fr_map fun _ => rfl) (.row (by decide) rfl (fr_map fun _ => rfl) (.box (by decide) rfl (blkAs_cells (.sm rfl (.sm rfl .nil))) .nil)))) (Z3c (hz_len hzout (len_set out v24.toNat r_3)) hzv22 h hself hK0 hr)
   ·refine ssr <| un1 (v := (B (decide (x_1.a57.N = 2)))) rfl <| un1 rfl <| dnil ?_
    refine Sv.cnd rfl h (fun h => ?_) fun h => ?_
    ·refine srg <| un1 rfl <| un1 rfl <| un1 rfl ?_
     obtain ⟨r_4, hr5, h⟩ := bnd h
     refine un <| ac_pure (Z2y hr5) rfl rfl rfl ?_
     obtain ⟨r_5, hx5, h⟩ := bnd h
     refine un1 (v := (S r_5)) (s_cat rfl rfl hx5) ?_
     obtain ⟨x_3, hx6, h⟩ := bnd h
     refine un1 (v := (.c (.ref 1 1 v24.toNat 0))) (s_iaddrL rfl rfl hzout hx6) <| un <| a2n (h' := upd _ 1 (lstB zout 1 ((out.set v24.toNat r_5).map eStr))) (n' := 3) rfl (s_storeL (e := eStr) (q' := r_5) rfl rfl hzout hx6 rfl rfl rfl (Nat.le_of_ble_eq_true rfl) rfl) hcs ?_
     try rw [len_set out v24.toNat r_5]
     refine dnil ?_
     exact Sv.weak (wcn [0, 1, 2] rfl (.cf rfl rfl (.cf rfl rfl (.cons rfl (.c (lsr rfl rfl)) (.cons rfl (.c (lsr rfl rfl)) (.cr rfl rfl rfl (.cf rfl rfl .nil)))))) (.row (by decide) rfl (fr_map fun _ => rfl) (.row (by decide) rfl (fr_map fun _ => rfl) (.box (by decide) rfl (blkAs_cells (.sm rfl (.sm rfl .nil))) .nil)))) (Z3c (hz_len hzout (len_set out v24.toNat r_5)) hzv22 h hself hK0 hr)
    ·refine Sv.skip ?_
     exact Sv.weak (wcn [0, 1, 2] rfl (.cf rfl rfl (.cf rfl rfl (.cons rfl (.c (lsr rfl rfl)) (.cons rfl (.c (lsr rfl rfl)) (.cr rfl rfl rfl (.cf rfl rfl .nil)))))) (.row (by decide) rfl (fr_map fun _ => rfl) (.row (by decide) rfl (fr_map fun _ => rfl) (.box (by decide) rfl (blkAs_cells (.sm rfl (.sm rfl .nil))) .nil)))) (Z3c hzout hzv22 h hself hK0 hr)
 ·refine Sv.exit ?_
  exact hK0 out zout hzout h _ (wcn [1] rfl (.cons rfl (.c (lsr rfl rfl)) .nil) (.row (by decide) rfl (fr_map fun _ => rfl) .nil))
/-- clerestory/count.Marks -/
noncomputable def Z3d (d_ : TDoc) (l_ : (List (Ar59 TVal))) : Option (TT × Int) :=
 (Z1g d_ l_).bind fun r_ =>
 if (!decide (r_ = 0)) then
  some (([] : TT), r_)
 else
  (mkl? 16 (d_.Nodes.length : Int) (d_.Nodes.length : Int) ([] : Tx)).bind fun row =>
  (Z23 d_ l_).bind fun r_1 =>
  lim fun kk => Z3 r_1 d_ l_ (fun (out1 : TT) => 
    some (out1, 0)) kk row r_1 0
theorem Zaj {mL : Int} {d_ : TDoc} {l_ : (List (Ar59 TVal))} {r : (TT × Int)} (h : Z3d d_ l_ = some r) : ACalls Tryz.prog (GG mL) 8 [(.agg (e_TDoc d_)), (.c (.ro false 118 (l_.map (eA59 e_TVal))))] e0 0 (Z3b r) := by
 refine acalls_of_sv hmix c8 (R := Z3b r) ?_
 unfold Z3d at h
 refine ssr <| un <| a2v (v := (.c (.ref 0 2 0 0))) (h' := upd _ 0 (some (.cells 2 [(e_TDoc d_)]))) (n' := 1) rfl rfl hcs <| un1 rfl <| un1 rfl <| dnil <| Sv.seq <| ssr <| un1 (v := (.agg (e_TDoc d_))) rfl <| un1 rfl ?_
 obtain ⟨r_, hr1, h⟩ := bnd h
 refine un <| ac_pure (Z44 hr1) rfl rfl rfl <| un1 rfl <| dnil <| ssr <| un1 rfl <| un1 (v := (B (!decide (r_ = 0)))) rfl <| dnil ?_
 refine Sv.cnd rfl h (fun h => ?_) fun h => ?_
 ·refine ssr <| un1 rfl <| un1 rfl <| un1 rfl <| dnil <| Sv.ret ?_
  replace h := Option.some.inj h
  subst h
  exact ⟨_, .refl _, _, rfl, ⟨upd e0 0 (some (.tup [(lstV true 0 1 ([] : TT).length), (I r_)])), (upd e0 0 (lstB true 1 (([] : TT).map eStr))), 1⟩, (.tup [(lstV true 0 1 ([] : TT).length), (I r_)]), weak_canon2 [1000] [0] (by decide) (by decide) nlz (.cons (by decide) .nil) (.cons rfl (avAs_tup (.cons (.c (.same rfl)) (.cons (avAs_free rfl) .nil))) .nil) (.non (by decide) .nil), rfl, true, (fun _ => rfl), rfl, rfl, rfl⟩
 ·refine Sv.skip <| ssr <| un1 (v := (.c (.ref 0 2 0 0))) rfl <| un1 (v := (.c (.ro false 6 (d_.Nodes.map e_TNode)))) rfl <| un1 (v := (I (d_.Nodes.length : Int))) (s_len (e := e_TNode) (xs := d_.Nodes) rfl) ?_
  obtain ⟨row, hx1, h⟩ := bnd h
  refine un <| a2mk (e := eStr) rfl rfl hx1 (fun _ _ => (.sm rfl .nil)) <| un1 rfl <| dnil <| Sv.seq <| ssr <| un1 (v := (.agg (e_TDoc d_))) rfl <| un1 rfl ?_
  obtain ⟨r_1, hr2, h⟩ := bnd h
  refine un <| ac_gen (bs := []) («as» := [(.agg (e_TDoc d_)), (.c (.ro false 118 (l_.map (eA59 e_TVal))))]) (h2 := _) (h1 := e0) (Z65 hr2) rfl (.cons (avAs_free rfl) (.cons (avAs_free rfl) .nil)) (hsub_refl _) (.nil _) (fun _ => rfl) (by decide) (by decide) (.cons (avAs_free rfl) (.cons (avAs_free rfl) .nil)) .nil ?_
  rintro _ _ _ hn ⟨z_, hz_, rfl, rfl, rfl⟩
  refine ⟨.inl rfl, (upd (rem [] _) 2 (lstB z_ 1 (r_1.map eI))), fun hbd => (m3_cons (m3_row rfl (fr_map fun _ => rfl)) (m3_rem (in_nil _) (.cons (by decide) .nil) hbd)), (lstV z_ 2 1 r_1.length), 3, (by cases z_ <;> rfl), rfl, ?_⟩
  refine un1 (v := (I (r_1.length : Int))) (s_lenL rfl (len_nil_of hz_)) <| un1 rfl <| dnil <| Sv.block ?_
  obtain ⟨kk, h⟩ := lim_some h
  refine Sv.weak (wcn [0, 1, 2] rfl (.cf rfl rfl (.cf rfl rfl (.cons rfl (.c (lsr rfl rfl)) (.cons rfl (.c (lsr rfl rfl)) (.cr rfl rfl rfl (.cf rfl rfl .nil)))))) (.row (by decide) rfl (fr_map fun _ => rfl) (.row (by decide) rfl (fr_map fun _ => rfl) (.box (by decide) rfl (blkAs_cells (.sm rfl (.sm rfl .nil))) .nil)))) (Zai hcs hz_ h ?_ (fun s hs => hs))
  ·intro out1 zout1 hzout1 h _ hw1
   refine Sv.weak hw1 <| ssr <| un1 rfl <| un1 rfl <| un1 rfl <| dnil <| Sv.ret ?_
   replace h := Option.some.inj h
   subst h
   exact ⟨_, .refl _, _, rfl, ⟨upd e0 0 (some (.tup [(lstV zout1 0 1 out1.length), (I 0)])), (upd e0 0 (lstB zout1 1 (out1.map eStr))), 1⟩, (.tup [(lstV zout1 0 1 out1.length), (I 0)]), weak_canon2 [0] [0] (by decide) (by decide) nlz (.cons (by decide) .nil) (.cons rfl (avAs_tup (.cons (.c (lsr rfl rfl)) (.cons (avAs_free rfl) .nil))) .nil) (.row (by decide) rfl (fr_map fun _ => rfl) .nil), rfl, zout1, hzout1, rfl, rfl, rfl⟩
def a17 : AFunc := ⟨2, [(.tmp 4)], (sr [(oP 2 (.box (.tmp 0))), (oP 4 (.mov kF))]
 (sr [(oP 5 (.faddr 0 (.tmp 2))), (oP 6 (.load false 1 (.tmp 5))), (mV 7 1), (oP 8 (.iaddr 6 (.tmp 6) (.tmp 7))), (oP 9 (.faddr 0 (.tmp 8))), (oP 10 (.load false 1 (.tmp 9))), (oP 11 (.bin .eql (.tmp 10) (kI 2))), (mV 4 11)]
 .ret))⟩
theorem c17 : compFunc Tryz.prog 17 = some a17 := by kernel_rfl
def Zak (r : Bool) : AV → Heap → Nat → Prop := fun v h' n' => v = (B r) ∧ (h' = e0) ∧ n' = 0
/-- clerestory/clerestoryref2.IsElement -/
noncomputable def Z3e (d_ : TDoc) (n_ : Int) : Option Bool :=
 (at? d_.Nodes n_).bind fun x_ =>
 some (decide (x_.Kind = 2))
theorem Zal {mL : Int} {d_ : TDoc} {n_ : Int} {r : Bool} (h : Z3e d_ n_ = some r) : CPure Tryz.prog (GG mL) 17 [(.agg (e_TDoc d_)), (I n_)] (B r) := by
 refine acalls_of_sv hmix c17 (R := Zak r) ?_
 unfold Z3e at h
 refine ssr <| un <| a2v (v := (.c (.ref 0 2 0 0))) (h' := upd _ 0 (some (.cells 2 [(e_TDoc d_)]))) (n' := 1) rfl rfl hcs <| un1 rfl <| dnil <| ssr <| un1 (v := (.c (.ref 0 2 0 0))) rfl <| un1 (v := (.c (.ro false 6 (d_.Nodes.map e_TNode)))) rfl <| un1 rfl ?_
 obtain ⟨x_, hx1, h⟩ := bnd h
 refine un1 (v := (.c (.rop (e_TNode x_)))) (s_iaddr (e := e_TNode) (xs := d_.Nodes) rfl rfl hx1) <| un1 (v := (.c (.rop (e_TNode x_)))) rfl <| un1 (v := (I x_.Kind)) rfl <| un1 (v := (B (decide (x_.Kind = 2)))) rfl <| un1 rfl <| dnil <| Sv.ret ?_
 exact rt0 h rfl rfl ⟨rfl, rfl, rfl⟩
def a11_c0 : ACode := .ret
def a11 : AFunc := ⟨3, [(.tmp 6)], (sr [(oP 3 (.box (.tmp 0))), (oP 6 (.mov kF))]
 (sr [(oP 7 (.load true 2 (.tmp 3))), (mV 8 2), (oP 9 (.call 17 [(.tmp 7), (.tmp 8)])), (mV 10 9), ⟨(some 11), (.mov (.tmp 1)), (some (10, true))⟩, ⟨(some 12), (.mov (.tmp 2)), (some (10, true))⟩, ⟨(some 13), (.iaddr 118 (.tmp 11) (.tmp 12)), (some (10, true))⟩, ⟨(some 14), (.iaddrA 59 2 (.tmp 13) (kI 0)), (some (10, true))⟩, ⟨(some 15), (.load true 2 (.tmp 14)), (some (10, true))⟩, ⟨(some 16), (.build [(.val (.int .i64 0)), (.val (.int .i64 0))] [(0, (1, (kI 1))), (1, (1, (kI 8)))]), (some (10, true))⟩, ⟨(some 17), (.eqs false true [.i, .i] (.tmp 15) (.tmp 16)), (some (10, true))⟩, (oP 18 (.pick (.tmp 10) (.tmp 17) kF)), (mV 6 18)]
 a11_c0))⟩
theorem c11 : compFunc Tryz.prog 11 = some a11 := by kernel_rfl
def Z6a (r : Bool) : AV → Heap → Nat → Prop := fun v h' n' => v = (B r) ∧ (h' = e0) ∧ n' = 0
noncomputable def Z2p (v6 : Bool) : Option Bool :=
 some v6
theorem Z6b {mL : Int} {v6 : Bool} {o : Bool} (h : Z2p v6 = some o) :
  Sv Tryz.prog (GG mL) 0 a11_c0 (Ends a11.results 0 (Z6a o)) ⟨(upd e0 6 (some (B v6))), e0, 0⟩ := by
 unfold Z2p at h
 refine Sv.ret ?_
 exact rt0 h rfl rfl ⟨rfl, rfl, rfl⟩
/-- clerestory/clerestoryref2.IsItem -/
noncomputable def Z12 (d_ : TDoc) (l_ : (List (Ar59 TVal))) (n_ : Int) : Option Bool :=
 (Z3e d_ n_).bind fun r_ =>
 if r_ then
  (at? l_ n_).bind fun x_ =>
  Z2p (decide (x_.a0.Kind = 1) && (decide (x_.a0.N = 8) && true))
 else
  Z2p false
theorem Z3f {mL : Int} {d_ : TDoc} {l_ : (List (Ar59 TVal))} {n_ : Int} {r : Bool} (h : Z12 d_ l_ n_ = some r) : CPure Tryz.prog (GG mL) 11 [(.agg (e_TDoc d_)), (.c (.ro false 118 (l_.map (eA59 e_TVal)))), (I n_)] (B r) := by
 refine acalls_of_sv hmix c11 (R := Z6a r) ?_
 unfold Z12 at h
 refine ssr <| un <| a2v (v := (.c (.ref 0 2 0 0))) (h' := upd _ 0 (some (.cells 2 [(e_TDoc d_)]))) (n' := 1) rfl rfl hcs <| un1 rfl <| dnil <| ssr <| un1 (v := (.agg (e_TDoc d_))) rfl <| un1 rfl ?_
 obtain ⟨r_, hr1, h⟩ := bnd h
 refine un <| ac_pure (Zal hr1) rfl rfl rfl <| un1 rfl ?_
 refine spl h (fun h => ?_) fun h => ?_
 ·refine gt rfl <| a1 rfl <| gt rfl <| a1 rfl ?_
  obtain ⟨x_, hx1, h⟩ := bnd h
  refine gt rfl <| a1 (v := (.c (.rop [cI x_.a0.Kind, cI x_.a0.N, cI x_.a1.Kind, cI x_.a1.N, cI x_.a2.Kind, cI x_.a2.N, cI x_.a3.Kind, cI x_.a3.N, cI x_.a4.Kind, cI x_.a4.N, cI x_.a5.Kind, cI x_.a5.N, cI x_.a6.Kind, cI x_.a6.N, cI x_.a7.Kind, cI x_.a7.N, cI x_.a8.Kind, cI x_.a8.N, cI x_.a9.Kind, cI x_.a9.N, cI x_.a10.Kind, cI x_.a10.N, cI x_.a11.Kind, cI x_.a11.N, cI x_.a12.Kind, cI x_.a12.N, cI x_.a13.Kind, cI x_.a13.N, cI x_.a14.Kind, cI x_.a14.N, cI x_.a15.Kind, cI x_.a15.N, cI x_.a16.Kind, cI x_.a16.N, cI x_.a17.Kind, cI x_.a17.N, cI x_.a18.Kind, cI x_.a18.N, cI x_.a19.Kind, cI x_.a19.N, cI x_.a20.Kind, cI x_.a20.N, cI x_.a21.Kind, cI x_.a21.N, cI x_.a22.Kind, cI x_.a22.N, cI x_.a23.Kind, cI x_.a23.N, cI x_.a24.Kind, cI x_.a24.N, cI x_.a25.Kind, cI x_.a25.N, cI x_.a26.Kind, cI x_.a26.N, cI x_.a27.Kind, cI x_.a27.N, cI x_.a28.Kind, cI x_.a28.N, cI x_.a29.Kind, cI x_.a29.N, cI x_.a30.Kind, cI x_.a30.N, cI x_.a31.Kind, cI x_.a31.N, cI x_.a32.Kind, cI x_.a32.N, cI x_.a33.Kind, cI x_.a33.N, cI x_.a34.Kind, cI x_.a34.N, cI x_.a35.Kind, cI x_.a35.N, cI x_.a36.Kind, cI x_.a36.N, cI x_.a37.Kind, cI x_.a37.N, cI x_.a38.Kind, cI x_.a38.N, cI x_.a39.Kind, cI x_.a39.N, cI x_.a40.Kind, cI x_.a40.N, cI x_.a41.Kind, cI x_.a41.N, cI x_.a42.Kind, cI x_.a42.N, cI x_.a43.Kind, cI x_.a43.N, cI x_.a44.Kind, cI x_.a44.N, cI x_.a45.Kind, cI x_.a45.N, cI x_.a46.Kind, cI x_.a46.N, cI x_.a47.Kind, cI x_.a47.N, cI x_.a48.Kind, cI x_.a48.N, cI x_.a49.Kind, cI x_.a49.N, cI x_.a50.Kind, cI x_.a50.N, cI x_.a51.Kind, cI x_.a51.N, cI x_.a52.Kind, cI x_.a52.N, cI x_.a53.Kind, cI x_.a53.N, cI x_.a54.Kind, cI x_.a54.N, cI x_.a55.Kind, cI x_.a55.N, cI x_.a56.Kind, cI x_.a56.N, cI x_.a57.Kind, cI x_.a57.N, cI x_.a58.Kind, cI x_.a58.N]))) (s_iaddr (e := (eA59 e_TVal)) (xs := l_) rfl rfl hx1) <| gt rfl <| a1 (v := (.c (.rop [cI x_.a0.Kind, cI x_.a0.N, cI x_.a1.Kind, cI x_.a1.N, cI x_.a2.Kind, cI x_.a2.N, cI x_.a3.Kind, cI x_.a3.N, cI x_.a4.Kind, cI x_.a4.N, cI x_.a5.Kind, cI x_.a5.N, cI x_.a6.Kind, cI x_.a6.N, cI x_.a7.Kind, cI x_.a7.N, cI x_.a8.Kind, cI x_.a8.N, cI x_.a9.Kind, cI x_.a9.N, cI x_.a10.Kind, cI x_.a10.N, cI x_.a11.Kind, cI x_.a11.N, cI x_.a12.Kind, cI x_.a12.N, cI x_.a13.Kind, cI x_.a13.N, cI x_.a14.Kind, cI x_.a14.N, cI x_.a15.Kind, cI x_.a15.N, cI x_.a16.Kind, cI x_.a16.N, cI x_.a17.Kind, cI x_.a17.N, cI x_.a18.Kind, cI x_.a18.N, cI x_.a19.Kind, cI x_.a19.N, cI x_.a20.Kind, cI x_.a20.N, cI x_.a21.Kind, cI x_.a21.N, cI x_.a22.Kind, cI x_.a22.N, cI x_.a23.Kind, cI x_.a23.N, cI x_.a24.Kind, cI x_.a24.N, cI x_.a25.Kind, cI x_.a25.N, cI x_.a26.Kind, cI x_.a26.N, cI x_.a27.Kind, cI x_.a27.N, cI x_.a28.Kind, cI x_.a28.N, cI x_.a29.Kind, cI x_.a29.N, cI x_.a30.Kind, cI x_.a30.N, cI x_.a31.Kind, cI x_.a31.N, cI x_.a32.Kind, cI x_.a32.N, cI x_.a33.Kind, cI x_.a33.N, cI x_.a34.Kind, cI x_.a34.N, cI x_.a35.Kind, cI x_.a35.N, cI x_.a36.Kind, cI x_.a36.N, cI x_.a37.Kind, cI x_.a37.N, cI x_.a38.Kind, cI x_.a38.N, cI x_.a39.Kind, cI x_.a39.N, cI x_.a40.Kind, cI x_.a40.N, cI x_.a41.Kind, cI x_.a41.N, cI x_.a42.Kind, cI x_.a42.N, cI x_.a43.Kind, cI x_.a43.N, cI x_.a44.Kind, cI x_.a44.N, cI x_.a45.Kind, cI x_.a45.N, cI x_.a46.Kind, cI x_.a46.N, cI x_.a47.Kind, cI x_.a47.N, cI x_.a48.Kind, cI x_.a48.N, cI x_.a49.Kind, cI x_.a49.N, cI x_.a50.Kind, cI x_.a50.N, cI x_.a51.Kind, cI x_.a51.N, cI x_.a52.Kind, cI x_.a52.N, cI x_.a53.Kind, cI x_.a53.N, cI x_.a54.Kind, cI x_.a54.N, cI x_.a55.Kind, cI x_.a55.N, cI x_.a56.Kind, cI x_.a56.N, cI x_.a57.Kind, cI x_.a57.N, cI x_.a58.Kind, cI x_.a58.N]))) rfl <| gt rfl <| a1 (v := (.agg (e_TVal x_.a0))) rfl <| gt rfl <| a1 (v := (.agg [cI 1, cI 8])) rfl <| gt rfl <| a1 (v := (B (decide (x_.a0.Kind = 1) && (decide (x_.a0.N = 8) && true)))) rfl <| un1 (v := (B (decide (x_.a0.Kind = 1) && (decide (x_.a0.N = 8) && true)))) rfl <| un1 rfl <| dnil ?_
  exact Sv.weak (wcn [] rfl (.cf rfl rfl .nil) .nil) (Z6b h)
 ·repeat (first | refine gu rfl ?_ | refine gs rfl rfl ?_)
  refine un1 (v := (B false)) rfl <| un1 rfl <| dnil ?_
  exact Sv.weak (wcn [] rfl (.cf rfl rfl .nil) .nil) (Z6b h)
def a40_c0 : ACode := (.seq (sr [(mV 16 9), (mV 17 8), (oP 18 (.len (.tmp 17))), (oP 19 (.bin .lss (.tmp 16) (.tmp 18)))]
 (.cond (.tmp 19) .skip (.exit 0)))
 (.seq (.block 1 (sr [(mV 22 8), (mV 23 9), (oP 24 (.iaddr 2 (.tmp 22) (.tmp 23))), (oP 25 (.faddr 0 (.tmp 24))), (oP 26 (.load false 1 (.tmp 25))), (mV 27 2), (oP 28 (.bin .eql (.tmp 26) (.tmp 27)))]
 (.cond (.tmp 28) (sr [(mV 29 8), (mV 30 9), (oP 31 (.iaddr 2 (.tmp 29) (.tmp 30))), (oP 32 (.faddr 1 (.tmp 31))), (oP 33 (.load false 1 (.tmp 32))), (mV 6 33), (oP 7 (.mov kT))]
 .ret) .skip)))
 (.region [(mV 20 9), (oP 21 (.bin .add (.tmp 20) (kI 1))), (mV 9 21)])))
def a40 : AFunc := ⟨3, [(.tmp 6), (.tmp 7)], (sr [(oP 3 (.box (.tmp 0))), (oP 6 (.mov (.const (.c (.str []))))), (oP 7 (.mov kF))]
 (sr [(oP 10 (.faddr 0 (.tmp 3))), (oP 11 (.load false 1 (.tmp 10))), (mV 12 1), (oP 13 (.iaddr 6 (.tmp 11) (.tmp 12))), (oP 14 (.faddr 2 (.tmp 13))), (oP 15 (.load false 1 (.tmp 14))), (mV 8 15)]
 (.seq (sr [(oP 9 (.mov (kI 0)))]
 (.block 0 (.loop a40_c0)))
 (sr [(oP 6 (.mov (.const (.c (.str []))))), (oP 7 (.mov kF))]
 .ret))))⟩
theorem c40 : compFunc Tryz.prog 40 = some a40 := by kernel_rfl
def Z6c (r : (Tx × Bool)) : AV → Heap → Nat → Prop := fun v h' n' => v = (.tup [(S r.1), (B r.2)]) ∧ (h' = e0) ∧ n' = 0
abbrev Zam (F_ : Unit → Option (Tx × Bool)) (o : (Tx × Bool)) (R_ : St → Prop) : Prop := ∀ (_ : Unit), F_ () = some o → ∀ s, Weak 0 s ⟨e0, e0, 0⟩ → R_ s
abbrev Z6d (name : Tx) (x_ : TNode) (F_ : Nat → Int → Option (Tx × Bool)) (o : (Tx × Bool)) : Nat → St → Prop := fun k s => ∃ (i_ : Int), F_ k i_ = some o ∧ s = ⟨(ue [(9, (I i_)), (8, (.c (.ro false 2 (x_.Attrs.map e_TAttr)))), (2, (S name))]), e0, 0⟩
abbrev Zan (name : Tx) (x_ : TNode) (F_ : Int → Option (Tx × Bool)) (o : (Tx × Bool)) (R_ : St → Prop) : Prop := ∀ (i_ : Int), F_ i_ = some o → ∀ s, Weak 0 s ⟨(ue [(9, (I i_)), (8, (.c (.ro false 2 (x_.Attrs.map e_TAttr)))), (2, (S name))]), e0, 0⟩ → R_ s
noncomputable def Zt (x_ : TNode) (name : Tx) (K0_ : Unit → Option (Tx × Bool)) : Nat → Int → Option (Tx × Bool)
 | 0, _ => none
 | k + 1, i_ =>
  if decide (i_ < (x_.Attrs.length : Int)) then
   (at? x_.Attrs i_).bind fun x_1 =>
   if decide (x_1.Name = name) then
    (at? x_.Attrs i_).bind fun x_2 =>
    some (x_2.Value, true)
   else
    (Zt x_ name K0_ k) (wi (i_ + 1))
  else
   K0_ ()
theorem Zao {mL : Int} {Q : AExit → St → Prop} {x_ : TNode} {name : Tx} {K0_ : Unit → Option (Tx × Bool)} {k : Nat} {i_ : Int} {o : (Tx × Bool)} (h : Zt x_ name K0_ k i_ = some o)
  (hK0 : Zam K0_ o (Q (.exit 0)))
  (hr : ∀ s, Ends a40.results 0 (Z6c o) .ret s → Q .ret s) :
  Sv Tryz.prog (GG mL) 0 (.loop a40_c0) Q ⟨(ue [(9, (I i_)), (8, (.c (.ro false 2 (x_.Attrs.map e_TAttr)))), (2, (S name))]), e0, 0⟩ := by
 refine Sv.loop (I := Z6d name x_ (Zt x_ name K0_) o) (fun k s hI => ?_) ⟨i_, h, rfl⟩
 clear h
 clear i_
 obtain ⟨i_, h, rfl⟩ := hI
 cases k with
 | zero => cases h
 | succ k =>
 rw [Zt] at h
 have hself : Zan name x_ (Zt x_ name K0_ k) o (rnd 0 (Z6d name x_ (Zt x_ name K0_) o) k Q) := fun i_ h s hw => ⟨_, k, hw, Nat.lt_succ_self k, i_, h, rfl⟩
 refine Sv.seq <| ssr <| un1 rfl <| un1 rfl <| un1 (v := (I (x_.Attrs.length : Int))) (s_len (e := e_TAttr) (xs := x_.Attrs) rfl) <| un1 (v := (B (decide (i_ < (x_.Attrs.length : Int))))) rfl <| dnil ?_
 refine Sv.cnd rfl h (fun h => ?_) fun h => ?_
 ·refine Sv.skip <| Sv.seq <| Sv.block <| ssr <| un1 rfl <| un1 rfl ?_
  obtain ⟨x_1, hx2, h⟩ := bnd h
  refine un1 (v := (.c (.rop (e_TAttr x_1)))) (s_iaddr (e := e_TAttr) (xs := x_.Attrs) rfl rfl hx2) <| un1 (v := (.c (.rop (e_TAttr x_1)))) rfl <| un1 (v := (S x_1.Name)) rfl <| un1 rfl <| un1 (v := (B (decide (x_1.Name = name)))) rfl <| dnil ?_
  refine Sv.cnd rfl h (fun h => ?_) fun h => ?_
  ·refine ssr <| un1 rfl <| un1 rfl ?_
   obtain ⟨x_2, hx3, h⟩ := bnd h
   refine un1 (v := (.c (.rop (e_TAttr x_2)))) (s_iaddr (e := e_TAttr) (xs := x_.Attrs) rfl rfl hx3) <| un1 (v := (.c (.rop [.str x_2.Value]))) rfl <| un1 (v := (S x_2.Value)) rfl <| un1 rfl <| un1 rfl <| dnil <| Sv.ret ?_
   exact hr _ (rt0 h rfl rfl ⟨rfl, rfl, rfl⟩)
  ·refine Sv.skip <| srg <| un1 rfl <| un1 (v := (I (wi (i_ + 1)))) rfl <| un1 rfl <| dnil ?_
   exact hself (wi (i_ + 1)) h _ (wcn [] rfl (.cf rfl rfl (.cf rfl rfl (.cf rfl rfl .nil))) .nil)
 ·refine Sv.exit ?_
  exact hK0 () h _ (wcn [] rfl .nil .nil)
/-- clerestory/clerestoryref2.AttrOf -/
noncomputable def Z3g (d_ : TDoc) (n_ : Int) (name : Tx) : Option (Tx × Bool) :=
 (at? d_.Nodes n_).bind fun x_ =>
 lim fun kk => Zt x_ name (fun (_ : Unit) => 
   some ([], false)) kk 0
theorem Zap {mL : Int} {d_ : TDoc} {n_ : Int} {name : Tx} {r : (Tx × Bool)} (h : Z3g d_ n_ name = some r) : CPure Tryz.prog (GG mL) 40 [(.agg (e_TDoc d_)), (I n_), (S name)] (.tup [(S r.1), (B r.2)]) := by
 refine acalls_of_sv hmix c40 (R := Z6c r) ?_
 unfold Z3g at h
 refine ssr <| un <| a2v (v := (.c (.ref 0 2 0 0))) (h' := upd _ 0 (some (.cells 2 [(e_TDoc d_)]))) (n' := 1) rfl rfl hcs <| un1 rfl <| un1 rfl <| dnil <| ssr <| un1 (v := (.c (.ref 0 2 0 0))) rfl <| un1 (v := (.c (.ro false 6 (d_.Nodes.map e_TNode)))) rfl <| un1 rfl ?_
 obtain ⟨x_, hx1, h⟩ := bnd h
 refine un1 (v := (.c (.rop (e_TNode x_)))) (s_iaddr (e := e_TNode) (xs := d_.Nodes) rfl rfl hx1) <| un1 (v := (.c (.rop [.ro false 2 (x_.Attrs.map e_TAttr), .str x_.Text, cI x_.Parent, .ro false 1 (x_.Kids.map eI)]))) rfl <| un1 (v := (.c (.ro false 2 (x_.Attrs.map e_TAttr)))) rfl <| un1 rfl <| dnil <| Sv.seq <| ssr <| un1 rfl <| dnil <| Sv.block ?_
 obtain ⟨kk, h⟩ := lim_some h
 refine Sv.weak (wcn [] rfl (.cf rfl rfl (.cf rfl rfl (.cf rfl rfl .nil))) .nil) (Zao h ?_ (fun s hs => hs))
 ·intro _ h _ hw1
  refine Sv.weak hw1 <| ssr <| un1 rfl <| un1 rfl <| dnil <| Sv.ret ?_
  exact rt0 h rfl rfl ⟨rfl, rfl, rfl⟩
def a59 : AFunc := ⟨1, [(.tmp 2)], (sr [(oP 2 (.mov kF))]
 (sr [(mV 3 0), (oP 4 (.bin .geq (.tmp 3) (.const (.c (.val (.int .u8 48)))))), (mV 5 4), ⟨(some 6), (.mov (.tmp 0)), (some (5, true))⟩, ⟨(some 7), (.bin .leq (.tmp 6) (.const (.c (.val (.int .u8 57))))), (some (5, true))⟩, (oP 8 (.pick (.tmp 5) (.tmp 7) kF)), (mV 2 8)]
 .ret))⟩
theorem c59 : compFunc Tryz.prog 59 = some a59 := by kernel_rfl
def Zaq (r : Bool) : AV → Heap → Nat → Prop := fun v h' n' => v = (B r) ∧ (h' = e0) ∧ n' = 0
/-- clerestory/clerestoryref2.digit -/
def Z13 (c_ : Int) : Bool :=
 ((decide (48 ≤ c_)) && (decide (c_ ≤ 57)))
theorem Z6e {mL : Int} (c_ : Int) : CPure Tryz.prog (GG mL) 59 [(.c (.val (.int .u8 c_)))] (B (Z13 c_)) := by
 generalize h : Z13 c_ = o
 refine acalls_of_sv hmix c59 (R := Zaq o) ?_
 unfold Z13 at h
 refine ssr <| un1 rfl <| dnil <| ssr <| un1 rfl <| un1 (v := (B (decide (48 ≤ c_)))) rfl <| un1 rfl ?_
 refine gjoin 3 (d := 8) (v := (B ((decide (48 ≤ c_)) && (decide (c_ ≤ 57))))) (fun X hX => ?_) ?_
 ·refine split2 (fun hc1 => ?_) (fun hc1 => ?_)
  ·refine gt rfl <| a1 rfl <| gt rfl <| a1 (v := (B (decide (c_ ≤ 57)))) rfl <| un1 (v := (B (decide (c_ ≤ 57)))) rfl <| dnil ?_
   exact hX _ (.putEq (by rw [hc1]; rfl) (.skp (.skp (.putEq (by rw [hc1]) (.refl _)) rfl) rfl))
  ·refine gs rfl rfl <| gs rfl rfl <| un1 (v := (B false)) rfl <| dnil ?_
   exact hX _ (.putEq (by rw [hc1]; rfl) (.skp (.skp (.putEq (by rw [hc1]) (.refl _)) rfl) rfl))
 refine un1 rfl <| dnil <| Sv.ret ?_
 subst h
 exact ⟨_, .refl _, _, rfl, ⟨upd e0 0 (some (B ((decide (48 ≤ c_)) && (decide (c_ ≤ 57))))), e0, 0⟩, (B ((decide (48 ≤ c_)) && (decide (c_ ≤ 57)))), weak_canon [] rfl ndl nll nlz (.cf rfl rfl .nil) .nil, rfl, rfl, rfl, rfl⟩
def a31_c0 : ACode := (sr [(mV 17 3), (mV 2 17)]
 .ret)
def a31 : AFunc := ⟨1, [(.tmp 2)], (sr [(oP 2 (.mov (.const (.c (.str [])))))]
 (sr [(mV 4 0), (oP 5 (.bin .rem (.tmp 4) (kI 10))), (oP 6 (.bin .add (kI 48) (.tmp 5))), (oP 7 (.conv .u8 (.tmp 6))), (oP 8 (.bslice 1 [(.val (.int .u8 0))] 1 [(0, (.tmp 7))])), (oP 9 (.ofBytes (.tmp 8))), (mV 3 9)]
 (.seq (sr [(mV 10 0), (oP 11 (.bin .gtr (.tmp 10) (kI 9)))]
 (.cond (.tmp 11) (.region [(mV 12 0), (oP 13 (.bin .quo (.tmp 12) (kI 10))), (oP 14 (.call 31 [(.tmp 13)])), (mV 15 3), (oP 16 (.bin .add (.tmp 14) (.tmp 15))), (mV 3 16)]) .skip))
 a31_c0)))⟩
theorem c31 : compFunc Tryz.prog 31 = some a31 := by kernel_rfl
def Z6f (r : Tx) : AV → Heap → Nat → Prop := fun v h' n' => v = (S r) ∧ (h' = e0) ∧ n' = 0
def Zar (mL : Int) (recf : Int → Option Tx) : Prop := ∀ (n_ : Int) (r : Tx), recf n_ = some r → CPure Tryz.prog (GG mL) 31 [(I n_)] (S r)
noncomputable def Z3h (s_ : Tx) : Option Tx :=
 some s_
theorem Z6g {mL : Int} {s_ : Tx} {o : Tx} (h : Z3h s_ = some o) :
  Sv Tryz.prog (GG mL) 0 a31_c0 (Ends a31.results 0 (Z6f o)) ⟨(upd e0 3 (some (S s_))), e0, 0⟩ := by
 unfold Z3h at h
 refine ssr <| un1 rfl <| un1 rfl <| dnil <| Sv.ret ?_
 exact rt0 h rfl rfl ⟨rfl, rfl, rfl⟩
/-- clerestory/clerestoryref2.Digits -/
noncomputable def Z24 : Nat → Int → Option Tx
 | 0, _ => none
 | k + 1, n_ =>
  if decide (9 < n_) then
   ((Z24 k) (wi (n_.tdiv 10))).bind fun r_ =>
   (cat? r_ (byts [(wr .u8 (wi (48 + (n_.tmod 10))))])).bind fun r_1 =>
   Z3h r_1
  else
   Z3h (byts [(wr .u8 (wi (48 + (n_.tmod 10))))])
noncomputable def Z1k (n_ : Int) : Option Tx :=
 lim fun kr => Z24 kr n_
theorem Zas {mL : Int} (k : Nat) : Zar mL (Z24 k) := by
 induction k with
 | zero => intro n_ r h; cases h
 | succ k hrec =>
 intro n_ r h
 refine acalls_of_sv hmix c31 (R := Z6f r) ?_
 rw [Z24] at h
 refine ssr <| un1 rfl <| dnil <| ssr <| un1 rfl <| un1 (v := (I (n_.tmod 10))) rfl <| un1 (v := (I (wi (48 + (n_.tmod 10))))) rfl <| un1 (v := (.c (.val (.int .u8 (wr .u8 (wi (48 + (n_.tmod 10)))))))) rfl <| un <| a2v (v := (lstV false 0 1 [(wr .u8 (wi (48 + (n_.tmod 10))))].length)) (h' := upd _ 0 (lstB false 1 ([(wr .u8 (wi (48 + (n_.tmod 10))))].map (eK .u8)))) (n' := 1) rfl rfl hcs <| un1 (v := (S (byts [(wr .u8 (wi (48 + (n_.tmod 10))))]))) (s_ofBytes (xs := [(wr .u8 (wi (48 + (n_.tmod 10))))]) rfl (slc_lst rfl (List.length_map _).symm (map_nil_of hcs))) <| un1 rfl <| dnil <| Sv.seq <| ssr <| un1 rfl <| un1 (v := (B (decide (9 < n_)))) rfl <| dnil ?_
 refine Sv.cnd rfl h (fun h => ?_) fun h => ?_
 ·refine srg <| un1 rfl <| un1 (v := (I (wi (n_.tdiv 10)))) rfl ?_
  obtain ⟨r_, hr1, h⟩ := bnd h
  refine un <| ac_pure (hrec (wi (n_.tdiv 10)) _ hr1) rfl rfl rfl <| un1 rfl ?_
  obtain ⟨r_1, hx1, h⟩ := bnd h
  refine un1 (v := (S r_1)) (s_cat rfl rfl hx1) <| un1 rfl <| dnil ?_
  exact Sv.weak (wcn [] rfl (.cf rfl rfl .nil) .nil) (Z6g h)
 ·refine Sv.skip ?_
  exact Sv.weak (wcn [] rfl (.cf rfl rfl .nil) .nil) (Z6g h)
theorem Z47 {mL : Int} {n_ : Int} {r : Tx} (h : Z1k n_ = some r) : CPure Tryz.prog (GG mL) 31 [(I n_)] (S r) := by
 unfold Z1k at h
 obtain ⟨k, h⟩ := lim_some h
 exact Zas k n_  r h
def a13 : AFunc := ⟨1, [(.tmp 2)], (sr [(oP 2 (.mov (.const (.c (.str [])))))]
 (.seq (sr [(mV 3 0), (oP 4 (.bin .leq (.tmp 3) (.const (.c (.val (.int .i64 (-10)))))))]
 (.cond (.tmp 4) (sr [(mV 5 0), (oP 6 (.bin .quo (.tmp 5) (kI 10))), (oP 7 (.call 13 [(.tmp 6)])), (mV 8 0), (oP 9 (.bin .rem (.tmp 8) (kI 10))), (oP 10 (.un .neg (.tmp 9))), (oP 11 (.call 31 [(.tmp 10)])), (oP 12 (.bin .add (.tmp 7) (.tmp 11))), (mV 2 12)]
 .ret) .skip))
 (.seq (sr [(mV 13 0), (oP 14 (.bin .lss (.tmp 13) (kI 0)))]
 (.cond (.tmp 14) (sr [(mV 15 0), (oP 16 (.bin .sub (kI 0) (.tmp 15))), (oP 17 (.call 31 [(.tmp 16)])), (oP 18 (.bin .add (.const (.c (.str [45]))) (.tmp 17))), (mV 2 18)]
 .ret) .skip))
 (sr [(mV 19 0), (oP 20 (.call 31 [(.tmp 19)])), (mV 2 20)]
 .ret))))⟩
theorem c13 : compFunc Tryz.prog 13 = some a13 := by kernel_rfl
def Zat (r : Tx) : AV → Heap → Nat → Prop := fun v h' n' => v = (S r) ∧ (h' = e0) ∧ n' = 0
def Zau (mL : Int) (recf : Int → Option Tx) : Prop := ∀ (n_ : Int) (r : Tx), recf n_ = some r → CPure Tryz.prog (GG mL) 13 [(I n_)] (S r)
/-- clerestory/clerestoryref2.Signed -/
noncomputable def Z1l : Nat → Int → Option Tx
 | 0, _ => none
 | k + 1, n_ =>
  if decide (n_ ≤ (-10)) then
   ((Z1l k) (wi (n_.tdiv 10))).bind fun r_ =>
   (Z1k (wi (0 - (n_.tmod 10)))).bind fun r_1 =>
   (cat? r_ r_1).bind fun r_2 =>
   some r_2
  else
   if decide (n_ < 0) then
    (Z1k (wi (0 - n_))).bind fun r_3 =>
    (cat? [45] r_3).bind fun r_4 =>
    some r_4
   else
    (Z1k n_).bind fun r_5 =>
    some r_5
noncomputable def Z1m (n_ : Int) : Option Tx :=
 lim fun kr => Z1l kr n_
theorem Zav {mL : Int} (k : Nat) : Zau mL (Z1l k) := by
 induction k with
 | zero => intro n_ r h; cases h
 | succ k hrec =>
 intro n_ r h
 refine acalls_of_sv hmix c13 (R := Zat r) ?_
 rw [Z1l] at h
 refine ssr <| un1 rfl <| dnil <| Sv.seq <| ssr <| un1 rfl <| un1 (v := (B (decide (n_ ≤ (-10))))) rfl <| dnil ?_
 refine Sv.cnd rfl h (fun h => ?_) fun h => ?_
 ·refine ssr <| un1 rfl <| un1 (v := (I (wi (n_.tdiv 10)))) rfl ?_
  obtain ⟨r_, hr1, h⟩ := bnd h
  refine un <| ac_pure (hrec (wi (n_.tdiv 10)) _ hr1) rfl rfl rfl <| un1 rfl <| un1 (v := (I (n_.tmod 10))) rfl <| un1 (v := (I (wi (0 - (n_.tmod 10))))) rfl ?_
  obtain ⟨r_1, hr2, h⟩ := bnd h
  refine un <| ac_pure (Z47 hr2) rfl rfl rfl ?_
  obtain ⟨r_2, hx1, h⟩ := bnd h
  refine un1 (v := (S r_2)) (s_cat rfl rfl hx1) <| un1 rfl <| dnil <| Sv.ret ?_
  exact rt0 h rfl rfl ⟨rfl, rfl, rfl⟩
 ·refine Sv.skip <| Sv.seq <| ssr <| un1 rfl <| un1 (v := (B (decide (n_ < 0)))) rfl <| dnil ?_
  refine Sv.cnd rfl h (fun h => ?_) fun h => ?_
  ·refine ssr <| un1 rfl <| un1 (v := (I (wi (0 - n_)))) rfl ?_
   obtain ⟨r_3, hr3, h⟩ := bnd h
   refine un <| ac_pure (Z47 hr3) rfl rfl rfl ?_
   obtain ⟨r_4, hx2, h⟩ := bnd h
   refine un1 (v := (S r_4)) (s_cat rfl rfl hx2) <| un1 rfl <| dnil <| Sv.ret ?_
   exact rt0 h rfl rfl ⟨rfl, rfl, rfl⟩
  ·refine Sv.skip <| ssr <| un1 rfl ?_
   obtain ⟨r_5, hr4, h⟩ := bnd h
   refine un <| ac_pure (Z47 hr4) rfl rfl rfl <| un1 rfl <| dnil <| Sv.ret ?_
   exact rt0 h rfl rfl ⟨rfl, rfl, rfl⟩
theorem Z48 {mL : Int} {n_ : Int} {r : Tx} (h : Z1m n_ = some r) : CPure Tryz.prog (GG mL) 13 [(I n_)] (S r) := by
 unfold Z1m at h
 obtain ⟨k, h⟩ := lim_some h
 exact Zav k n_  r h
def a27_c0 : ACode := (.cond (.tmp 47) (sr [(oP 6 (.mov (kI 0))), (oP 7 (.mov kF))]
 .ret) .skip)
def a27_c1 : ACode := (.region [(mV 31 10), (oP 32 (.bin .add (.tmp 31) (kI 1))), (mV 10 32)])
def a27_c2 : ACode := (.seq (sr [(mV 27 10), (mV 28 8), (oP 29 (.lenS (.tmp 28))), (oP 30 (.bin .lss (.tmp 27) (.tmp 29)))]
 (.cond (.tmp 30) .skip (.exit 0)))
 (.seq (.block 1 (sr [(mV 33 8), (mV 34 10), (oP 35 (.idxS (.tmp 33) (.tmp 34))), (oP 36 (.call 59 [(.tmp 35)])), (oP 37 (.un .not (.tmp 36))), (mV 38 37), ⟨(some 39), (.mov (.tmp 10)), (some (38, true))⟩, ⟨(some 40), (.bin .gtr (.tmp 39) (kI 0)), (some (38, true))⟩, ⟨(some 41), (.mov (.tmp 40)), (some (38, true))⟩, ⟨(some 42), (.mov (.tmp 8)), (some (41, false))⟩, ⟨(some 43), (.mov (.tmp 10)), (some (41, false))⟩, ⟨(some 44), (.idxS (.tmp 42) (.tmp 43)), (some (41, false))⟩, ⟨(some 45), (.bin .neq (.tmp 44) (.const (.c (.val (.int .u8 45))))), (some (41, false))⟩, ⟨(some 46), (.pick (.tmp 41) kT (.tmp 45)), (some (38, true))⟩, (oP 47 (.pick (.tmp 38) (.tmp 46) kF))]
 a27_c0))
 a27_c1))
def a27_c3 : ACode := (.region [(mV 52 12), (oP 53 (.bin .add (.tmp 52) (kI 1))), (mV 12 53)])
def a27_c4 : ACode := (.seq (sr [(mV 48 12), (mV 49 8), (oP 50 (.lenS (.tmp 49))), (oP 51 (.bin .lss (.tmp 48) (.tmp 50)))]
 (.cond (.tmp 51) .skip (.exit 2)))
 (.seq (.block 3 (sr [(mV 54 8), (mV 55 12), (oP 56 (.idxS (.tmp 54) (.tmp 55))), (oP 57 (.call 59 [(.tmp 56)]))]
 (.cond (.tmp 57) (.region [(mV 58 11), (oP 59 (.bin .mul (kI 10) (.tmp 58))), (mV 60 8), (mV 61 12), (oP 62 (.idxS (.tmp 60) (.tmp 61))), (oP 63 (.bin .sub (.tmp 62) (.const (.c (.val (.int .u8 48)))))), (oP 64 (.conv .i64 (.tmp 63))), (oP 65 (.bin .add (.tmp 59) (.tmp 64))), (mV 11 65)]) .skip)))
 a27_c3))
def a27_c5 : ACode := (.cond (.tmp 73) (.region [(mV 74 11), (oP 75 (.bin .sub (kI 0) (.tmp 74))), (mV 11 75)]) .skip)
def a27_c6 : ACode := (sr [(mV 76 11), (mV 77 11), (oP 78 (.call 13 [(.tmp 77)])), (mV 79 8), (oP 80 (.bin .eql (.tmp 78) (.tmp 79))), (mV 81 80), ⟨(some 82), (.mov (.tmp 11)), (some (81, true))⟩, ⟨(some 83), (.bin .geq (.tmp 82) (.const (.c (.val (.int .i64 (-1000000)))))), (some (81, true))⟩, (oP 84 (.pick (.tmp 81) (.tmp 83) kF)), (mV 85 84), ⟨(some 86), (.mov (.tmp 11)), (some (85, true))⟩, ⟨(some 87), (.bin .leq (.tmp 86) (kI 1000000)), (some (85, true))⟩, (oP 88 (.pick (.tmp 85) (.tmp 87) kF)), (mV 6 76), (mV 7 88)]
 .ret)
def a27 : AFunc := ⟨3, [(.tmp 6), (.tmp 7)], (sr [(oP 3 (.box (.tmp 0))), (oP 6 (.mov (kI 0))), (oP 7 (.mov kF))]
 (sr [(oP 14 (.load true 2 (.tmp 3))), (mV 15 1), (mV 16 2), (oP 17 (.call 40 [(.tmp 14), (.tmp 15), (.tmp 16)])), (mV 13 17), (oP 18 (.ext (.tmp 13) 0)), (oP 19 (.ext (.tmp 13) 1)), (mV 8 18), (mV 9 19)]
 (.seq (sr [(mV 20 9), (oP 21 (.un .not (.tmp 20))), (mV 22 21), ⟨(some 23), (.mov (.tmp 8)), (some (22, false))⟩, ⟨(some 24), (.lenS (.tmp 23)), (some (22, false))⟩, ⟨(some 25), (.bin .gtr (.tmp 24) (kI 8)), (some (22, false))⟩, (oP 26 (.pick (.tmp 22) kT (.tmp 25)))]
 (.cond (.tmp 26) (sr [(oP 6 (.mov (kI 0))), (oP 7 (.mov kF))]
 .ret) .skip))
 (.seq (sr [(oP 10 (.mov (kI 0)))]
 (.block 0 (.loop a27_c2)))
 (sr [(oP 11 (.mov (kI 0)))]
 (.seq (sr [(oP 12 (.mov (kI 0)))]
 (.block 2 (.loop a27_c4)))
 (.seq (sr [(mV 66 8), (oP 67 (.lenS (.tmp 66))), (oP 68 (.bin .gtr (.tmp 67) (kI 0))), (mV 69 68), ⟨(some 70), (.mov (.tmp 8)), (some (69, true))⟩, ⟨(some 71), (.idxS (.tmp 70) (kI 0)), (some (69, true))⟩, ⟨(some 72), (.bin .eql (.tmp 71) (.const (.c (.val (.int .u8 45))))), (some (69, true))⟩, (oP 73 (.pick (.tmp 69) (.tmp 72) kF))]
 a27_c5)
 a27_c6)))))))⟩
theorem c27 : compFunc Tryz.prog 27 = some a27 := by kernel_rfl
def Z14 (r : (Int × Bool)) : AV → Heap → Nat → Prop := fun v h' n' => v = (.tup [(I r.1), (B r.2)]) ∧ (h' = e0) ∧ n' = 0
abbrev Zaw (mL : Int) (Q : AExit → St → Prop) : AExit → St → Prop := AThen (Sv Tryz.prog (GG mL) 0 a27_c1 Q) Q
abbrev Zax (mL : Int) (Q : AExit → St → Prop) : AExit → St → Prop := ABlock 1 (Zaw mL Q)
abbrev Z6h (r_ : (Tx × Bool)) (F_ : Int → Option (Int × Bool)) (o : (Int × Bool)) (R_ : St → Prop) : Prop := ∀ (i_ : Int), F_ i_ = some o → ∀ s, Weak 0 s ⟨(ue [(10, (I i_)), (8, (S r_.1))]), e0, 0⟩ → R_ s
abbrev Z6i (r_ : (Tx × Bool)) (F_ : Unit → Option (Int × Bool)) (o : (Int × Bool)) (R_ : St → Prop) : Prop := ∀ (_ : Unit), F_ () = some o → ∀ s, Weak 0 s ⟨(upd e0 8 (some (S r_.1))), e0, 0⟩ → R_ s
noncomputable def Z1n (i_ : Int) (r_ : (Tx × Bool)) (self : Int → Option (Int × Bool)) (K0_ : Unit → Option (Int × Bool)) (v47 : Bool) : Option (Int × Bool) :=
 if v47 then
  some (0, false)
 else
  self (wi (i_ + 1))
theorem Z49 {mL : Int} {Q : AExit → St → Prop} {i_ : Int} {r_ : (Tx × Bool)} {self : Int → Option (Int × Bool)} {K0_ : Unit → Option (Int × Bool)} {v47 : Bool} {o : (Int × Bool)} (h : Z1n i_ r_ self K0_ v47 = some o)
  (hself : Z6h r_ self o (Q .normal))
  (hK0 : Z6i r_ K0_ o (Q (.exit 0)))
  (hr : ∀ s, Ends a27.results 0 (Z14 o) .ret s → Q .ret s) :
  Sv Tryz.prog (GG mL) 0 a27_c0 (Zax mL Q) ⟨(ue [(47, (B v47)), (10, (I i_)), (8, (S r_.1))]), e0, 0⟩ := by
 unfold Z1n at h
 refine Sv.cnd rfl h (fun h => ?_) fun h => ?_
 ·refine ssr <| un1 rfl <| un1 rfl <| dnil <| Sv.ret ?_
  exact hr _ (rt0 h rfl rfl ⟨rfl, rfl, rfl⟩)
 ·refine Sv.skip <| srg <| un1 rfl <| un1 (v := (I (wi (i_ + 1)))) rfl <| un1 rfl <| dnil ?_
  exact hself (wi (i_ + 1)) h _ (wcn [] rfl (.cf rfl rfl (.cf rfl rfl .nil)) .nil)
abbrev Z6j (r_ : (Tx × Bool)) (F_ : Nat → Int → Option (Int × Bool)) (o : (Int × Bool)) : Nat → St → Prop := fun k s => ∃ (i_ : Int), F_ k i_ = some o ∧ s = ⟨(ue [(10, (I i_)), (8, (S r_.1))]), e0, 0⟩
noncomputable def Z7 (r_ : (Tx × Bool)) (K0_ : Unit → Option (Int × Bool)) : Nat → Int → Option (Int × Bool)
 | 0, _ => none
 | k + 1, i_ =>
  if decide (i_ < (r_.1.length : Int)) then
   (at? r_.1 i_).bind fun c_ =>
   if (!(Z13 (c_.toNat : Int))) then
    if decide (0 < i_) then
     Z1n i_ r_ (Z7 r_ K0_ k) K0_ true
    else
     (at? r_.1 i_).bind fun c_1 =>
     Z1n i_ r_ (Z7 r_ K0_ k) K0_ (!decide ((c_1.toNat : Int) = 45))
   else
    Z1n i_ r_ (Z7 r_ K0_ k) K0_ false
  else
   K0_ ()
theorem Zay {mL : Int} {Q : AExit → St → Prop} {r_ : (Tx × Bool)} {K0_ : Unit → Option (Int × Bool)} {k : Nat} {i_ : Int} {o : (Int × Bool)} (h : Z7 r_ K0_ k i_ = some o)
  (hK0 : Z6i r_ K0_ o (Q (.exit 0)))
  (hr : ∀ s, Ends a27.results 0 (Z14 o) .ret s → Q .ret s) :
  Sv Tryz.prog (GG mL) 0 (.loop a27_c2) Q ⟨(ue [(10, (I i_)), (8, (S r_.1))]), e0, 0⟩ := by
 refine Sv.loop (I := Z6j r_ (Z7 r_ K0_) o) (fun k s hI => ?_) ⟨i_, h, rfl⟩
 clear h
 clear i_
 obtain ⟨i_, h, rfl⟩ := hI
 cases k with
 | zero => cases h
 | succ k =>
 rw [Z7] at h
 have hself : Z6h r_ (Z7 r_ K0_ k) o (rnd 0 (Z6j r_ (Z7 r_ K0_) o) k Q) := fun i_ h s hw => ⟨_, k, hw, Nat.lt_succ_self k, i_, h, rfl⟩
 refine Sv.seq <| ssr <| un1 rfl <| un1 rfl <| un1 (v := (I (r_.1.length : Int))) rfl <| un1 (v := (B (decide (i_ < (r_.1.length : Int))))) rfl <| dnil ?_
 refine Sv.cnd rfl h (fun h => ?_) fun h => ?_
 ·refine Sv.skip <| Sv.seq <| Sv.block <| ssr <| un1 rfl <| un1 rfl ?_
  obtain ⟨c_, hx1, h⟩ := bnd h
  refine un1 (v := (.c (.val (.int .u8 (c_.toNat : Int))))) (s_idxS rfl rfl hx1) <| un <| ac_pure (Z6e (mL := mL) (c_.toNat : Int)) rfl rfl rfl <| un1 (v := (B (!(Z13 (c_.toNat : Int))))) rfl <| un1 rfl ?_
  refine spl h (fun h => ?_) fun h => ?_
  ·refine gt rfl <| a1 rfl <| gt rfl <| a1 (v := (B (decide (0 < i_)))) rfl <| gt rfl <| a1 rfl ?_
   refine spl h (fun h => ?_) fun h => ?_
   ·refine gs rfl rfl <| gs rfl rfl <| gs rfl rfl <| gs rfl rfl <| gt rfl <| a1 (v := (B true)) rfl <| un1 (v := (B true)) rfl <| dnil ?_
    exact Sv.weak (wcn [] rfl (.cf rfl rfl (.cf rfl rfl (.cf rfl rfl .nil))) .nil) (Z49 h hself hK0 hr)
   ·refine gt rfl <| a1 rfl <| gt rfl <| a1 rfl ?_
    obtain ⟨c_1, hx2, h⟩ := bnd h
    refine gt rfl <| a1 (v := (.c (.val (.int .u8 (c_1.toNat : Int))))) (s_idxS rfl rfl hx2) <| gt rfl <| a1 (v := (B (!decide ((c_1.toNat : Int) = 45)))) rfl <| gt rfl <| a1 (v := (B (!decide ((c_1.toNat : Int) = 45)))) rfl <| un1 (v := (B (!decide ((c_1.toNat : Int) = 45)))) rfl <| dnil ?_
    exact Sv.weak (wcn [] rfl (.cf rfl rfl (.cf rfl rfl (.cf rfl rfl .nil))) .nil) (Z49 h hself hK0 hr)
  ·repeat (first | refine gu rfl ?_ | refine gs rfl rfl ?_)
   refine un1 (v := (B false)) rfl <| dnil ?_
   exact Sv.weak (wcn [] rfl (.cf rfl rfl (.cf rfl rfl (.cf rfl rfl .nil))) .nil) (Z49 h hself hK0 hr)
 ·refine Sv.exit ?_
  exact hK0 () h _ (wcn [] rfl (.cf rfl rfl .nil) .nil)
abbrev Z6k (r_ : (Tx × Bool)) (F_ : Int → Int → Option (Int × Bool)) (o : (Int × Bool)) (R_ : St → Prop) : Prop := ∀ (k_ : Int) (i_1 : Int), F_ k_ i_1 = some o → ∀ s, Weak 0 s ⟨(ue [(12, (I i_1)), (11, (I k_)), (8, (S r_.1))]), e0, 0⟩ → R_ s
abbrev Z6l (r_ : (Tx × Bool)) (F_ : Int → Option (Int × Bool)) (o : (Int × Bool)) (R_ : St → Prop) : Prop := ∀ (k_1 : Int), F_ k_1 = some o → ∀ s, Weak 0 s ⟨(ue [(11, (I k_1)), (8, (S r_.1))]), e0, 0⟩ → R_ s
noncomputable def Z2q (i_1 : Int) (r_ : (Tx × Bool)) (self : Int → Int → Option (Int × Bool)) (K2_ : Int → Option (Int × Bool)) (k_2 : Int) : Option (Int × Bool) :=
 self k_2 (wi (i_1 + 1))
theorem Z6m {mL : Int} {Q : AExit → St → Prop} {i_1 : Int} {r_ : (Tx × Bool)} {self : Int → Int → Option (Int × Bool)} {K2_ : Int → Option (Int × Bool)} {k_2 : Int} {o : (Int × Bool)} (h : Z2q i_1 r_ self K2_ k_2 = some o)
  (hself : Z6k r_ self o (Q .normal))
  (hK2 : Z6l r_ K2_ o (Q (.exit 2)))
  (hr : ∀ s, Ends a27.results 0 (Z14 o) .ret s → Q .ret s) :
  Sv Tryz.prog (GG mL) 0 a27_c3 Q ⟨(ue [(12, (I i_1)), (11, (I k_2)), (8, (S r_.1))]), e0, 0⟩ := by
 unfold Z2q at h
 refine srg <| un1 rfl <| un1 (v := (I (wi (i_1 + 1)))) rfl <| un1 rfl <| dnil ?_
 exact hself k_2 (wi (i_1 + 1)) h _ (wcn [] rfl (.cf rfl rfl (.cf rfl rfl (.cf rfl rfl .nil))) .nil)
abbrev Z6n (r_ : (Tx × Bool)) (F_ : Nat → Int → Int → Option (Int × Bool)) (o : (Int × Bool)) : Nat → St → Prop := fun k s => ∃ (k_ : Int), ∃ (i_1 : Int), F_ k k_ i_1 = some o ∧ s = ⟨(ue [(12, (I i_1)), (11, (I k_)), (8, (S r_.1))]), e0, 0⟩
noncomputable def Zg (r_ : (Tx × Bool)) (K2_ : Int → Option (Int × Bool)) : Nat → Int → Int → Option (Int × Bool)
 | 0, _, _ => none
 | k + 1, k_, i_1 =>
  if decide (i_1 < (r_.1.length : Int)) then
   (at? r_.1 i_1).bind fun c_2 =>
   if (Z13 (c_2.toNat : Int)) then
    (at? r_.1 i_1).bind fun c_3 =>
    Z2q i_1 r_ (Zg r_ K2_ k) K2_ (wi ((wi (10 * k_)) + (wr .i64 (wr .u8 ((c_3.toNat : Int) - 48)))))
   else
    Z2q i_1 r_ (Zg r_ K2_ k) K2_ k_
  else
   K2_ k_
theorem Zaz {mL : Int} {Q : AExit → St → Prop} {r_ : (Tx × Bool)} {K2_ : Int → Option (Int × Bool)} {k : Nat} {k_ : Int} {i_1 : Int} {o : (Int × Bool)} (h : Zg r_ K2_ k k_ i_1 = some o)
  (hK2 : Z6l r_ K2_ o (Q (.exit 2)))
  (hr : ∀ s, Ends a27.results 0 (Z14 o) .ret s → Q .ret s) :
  Sv Tryz.prog (GG mL) 0 (.loop a27_c4) Q ⟨(ue [(12, (I i_1)), (11, (I k_)), (8, (S r_.1))]), e0, 0⟩ := by
 refine Sv.loop (I := Z6n r_ (Zg r_ K2_) o) (fun k s hI => ?_) ⟨k_, i_1, h, rfl⟩
 clear h
 clear i_1 k_
 obtain ⟨k_, i_1, h, rfl⟩ := hI
 cases k with
 | zero => cases h
 | succ k =>
 rw [Zg] at h
 have hself : Z6k r_ (Zg r_ K2_ k) o (rnd 0 (Z6n r_ (Zg r_ K2_) o) k Q) := fun k_ i_1 h s hw => ⟨_, k, hw, Nat.lt_succ_self k, k_, i_1, h, rfl⟩
 refine Sv.seq <| ssr <| un1 rfl <| un1 rfl <| un1 (v := (I (r_.1.length : Int))) rfl <| un1 (v := (B (decide (i_1 < (r_.1.length : Int))))) rfl <| dnil ?_
 refine Sv.cnd rfl h (fun h => ?_) fun h => ?_
 ·refine Sv.skip <| Sv.seq <| Sv.block <| ssr <| un1 rfl <| un1 rfl ?_
  obtain ⟨c_2, hx3, h⟩ := bnd h
  refine un1 (v := (.c (.val (.int .u8 (c_2.toNat : Int))))) (s_idxS rfl rfl hx3) <| un <| ac_pure (Z6e (mL := mL) (c_2.toNat : Int)) rfl rfl rfl <| dnil ?_
  refine Sv.cnd rfl h (fun h => ?_) fun h => ?_
  ·refine srg <| un1 rfl <| un1 (v := (I (wi (10 * k_)))) rfl <| un1 rfl <| un1 rfl ?_
   obtain ⟨c_3, hx4, h⟩ := bnd h
   refine un1 (v := (.c (.val (.int .u8 (c_3.toNat : Int))))) (s_idxS rfl rfl hx4) <| un1 (v := (.c (.val (.int .u8 (wr .u8 ((c_3.toNat : Int) - 48)))))) rfl <| un1 (v := (I (wr .i64 (wr .u8 ((c_3.toNat : Int) - 48))))) rfl <| un1 (v := (I (wi ((wi (10 * k_)) + (wr .i64 (wr .u8 ((c_3.toNat : Int) - 48))))))) rfl <| un1 rfl <| dnil ?_
   exact Sv.weak (wcn [] rfl (.cf rfl rfl (.cf rfl rfl (.cf rfl rfl .nil))) .nil) (Z6m h hself hK2 hr)
  ·refine Sv.skip ?_
   exact Sv.weak (wcn [] rfl (.cf rfl rfl (.cf rfl rfl (.cf rfl rfl .nil))) .nil) (Z6m h hself hK2 hr)
 ·refine Sv.exit ?_
  exact hK2 k_ h _ (wcn [] rfl (.cf rfl rfl (.cf rfl rfl .nil)) .nil)
noncomputable def Z25 (r_ : (Tx × Bool)) (k_3 : Int) : Option (Int × Bool) :=
 (Z1m k_3).bind fun r_1 =>
 some (k_3, (((decide (r_1 = r_.1)) && (decide ((-1000000) ≤ k_3))) && (decide (k_3 ≤ 1000000))))
theorem Z6o {mL : Int} {r_ : (Tx × Bool)} {k_3 : Int} {o : (Int × Bool)} (h : Z25 r_ k_3 = some o) :
  Sv Tryz.prog (GG mL) 0 a27_c6 (Ends a27.results 0 (Z14 o)) ⟨(ue [(11, (I k_3)), (8, (S r_.1))]), e0, 0⟩ := by
 unfold Z25 at h
 refine ssr <| un1 rfl <| un1 rfl ?_
 obtain ⟨r_1, hr2, h⟩ := bnd h
 refine un <| ac_pure (Z48 hr2) rfl rfl rfl <| un1 rfl <| un1 (v := (B (decide (r_1 = r_.1)))) rfl <| un1 rfl ?_
 refine gjoin 3 (d := 84) (v := (B ((decide (r_1 = r_.1)) && (decide ((-1000000) ≤ k_3))))) (fun X hX => ?_) ?_
 ·refine split2 (fun hc9 => ?_) (fun hc9 => ?_)
  ·refine gt rfl <| a1 rfl <| gt rfl <| a1 (v := (B (decide ((-1000000) ≤ k_3)))) rfl <| un1 (v := (B (decide ((-1000000) ≤ k_3)))) rfl <| dnil ?_
   exact hX _ (.putEq (by rw [hc9]; rfl) (.skp (.skp (.putEq (by rw [hc9]) (.refl _)) rfl) rfl))
  ·refine gs rfl rfl <| gs rfl rfl <| un1 (v := (B false)) rfl <| dnil ?_
   exact hX _ (.putEq (by rw [hc9]; rfl) (.skp (.skp (.putEq (by rw [hc9]) (.refl _)) rfl) rfl))
 refine un1 rfl ?_
 refine gjoin 3 (d := 88) (v := (B (((decide (r_1 = r_.1)) && (decide ((-1000000) ≤ k_3))) && (decide (k_3 ≤ 1000000))))) (fun X hX => ?_) ?_
 ·refine split2 (fun hc10 => ?_) (fun hc10 => ?_)
  ·refine gt rfl <| a1 rfl <| gt rfl <| a1 (v := (B (decide (k_3 ≤ 1000000)))) rfl <| un1 (v := (B (decide (k_3 ≤ 1000000)))) rfl <| dnil ?_
   exact hX _ (.putEq (by rw [hc10]; rfl) (.skp (.skp (.putEq (by rw [hc10]) (.refl _)) rfl) rfl))
  ·refine gs rfl rfl <| gs rfl rfl <| un1 (v := (B false)) rfl <| dnil ?_
   exact hX _ (.putEq (by rw [hc10]; rfl) (.skp (.skp (.putEq (by rw [hc10]) (.refl _)) rfl) rfl))
 refine un1 rfl <| un1 rfl <| dnil <| Sv.ret ?_
 exact rt0 h rfl rfl ⟨rfl, rfl, rfl⟩
abbrev Zb0 (mL : Int) (o : (Int × Bool)) : AExit → St → Prop := AThen (Sv Tryz.prog (GG mL) 0 a27_c6 (Ends a27.results 0 (Z14 o))) (Ends a27.results 0 (Z14 o))
noncomputable def Zn (r_ : (Tx × Bool)) (k_1 : Int) (v73 : Bool) : Option (Int × Bool) :=
 if v73 then
  Z25 r_ (wi (0 - k_1))
 else
  Z25 r_ k_1
theorem Z6p {mL : Int} {r_ : (Tx × Bool)} {k_1 : Int} {v73 : Bool} {o : (Int × Bool)} (h : Zn r_ k_1 v73 = some o) :
  Sv Tryz.prog (GG mL) 0 a27_c5 (Zb0 mL o) ⟨(ue [(73, (B v73)), (11, (I k_1)), (8, (S r_.1))]), e0, 0⟩ := by
 unfold Zn at h
 refine Sv.cnd rfl h (fun h => ?_) fun h => ?_
 ·refine srg <| un1 rfl <| un1 (v := (I (wi (0 - k_1)))) rfl <| un1 rfl <| dnil ?_
  exact Sv.weak (wcn [] rfl (.cf rfl rfl (.cf rfl rfl .nil)) .nil) (Z6o h)
 ·refine Sv.skip ?_
  exact Sv.weak (wcn [] rfl (.cf rfl rfl (.cf rfl rfl .nil)) .nil) (Z6o h)
/-- clerestory/clerestoryref2.NumberIn -/
noncomputable def Z26 (d_ : TDoc) (n_ : Int) (name : Tx) : Option (Int × Bool) :=
 (Z3g d_ n_ name).bind fun r_ =>
 if ((!r_.2) || (decide (8 < (r_.1.length : Int)))) then
  some (0, false)
 else
  lim fun kk1 => Z7 r_ (fun (_ : Unit) => 
    lim fun kk => Zg r_ (fun (k_1 : Int) => 
      if decide (0 < (r_.1.length : Int)) then
       (at? r_.1 0).bind fun c_4 =>
       Zn r_ k_1 (decide ((c_4.toNat : Int) = 45))
      else
       Zn r_ k_1 false) kk 0 0) kk1 0
theorem Z6q {mL : Int} {d_ : TDoc} {n_ : Int} {name : Tx} {r : (Int × Bool)} (h : Z26 d_ n_ name = some r) : CPure Tryz.prog (GG mL) 27 [(.agg (e_TDoc d_)), (I n_), (S name)] (.tup [(I r.1), (B r.2)]) := by
 refine acalls_of_sv hmix c27 (R := Z14 r) ?_
 unfold Z26 at h
 refine ssr <| un <| a2v (v := (.c (.ref 0 2 0 0))) (h' := upd _ 0 (some (.cells 2 [(e_TDoc d_)]))) (n' := 1) rfl rfl hcs <| un1 rfl <| un1 rfl <| dnil <| ssr <| un1 (v := (.agg (e_TDoc d_))) rfl <| un1 rfl <| un1 rfl ?_
 obtain ⟨r_, hr1, h⟩ := bnd h
 refine un <| ac_pure (Zap hr1) rfl rfl rfl <| un1 rfl <| un1 (v := (S r_.1)) rfl <| un1 (v := (B r_.2)) rfl <| un1 rfl <| un1 rfl <| dnil <| Sv.seq <| ssr <| un1 rfl <| un1 (v := (B (!r_.2))) rfl <| un1 rfl ?_
 refine gjoin 4 (d := 26) (v := (B ((!r_.2) || (decide (8 < (r_.1.length : Int)))))) (fun X hX => ?_) ?_
 ·refine split2 (fun hc1 => ?_) (fun hc1 => ?_)
  ·refine gs rfl rfl <| gs rfl rfl <| gs rfl rfl <| un1 (v := (B true)) rfl <| dnil ?_
   exact hX _ (.putEq (by rw [hc1]; rfl) (.skp (.skp (.skp (.putEq (by rw [hc1]) (.refl _)) rfl) rfl) rfl))
  ·refine gt rfl <| a1 rfl <| gt rfl <| a1 (v := (I (r_.1.length : Int))) rfl <| gt rfl <| a1 (v := (B (decide (8 < (r_.1.length : Int))))) rfl <| un1 (v := (B (decide (8 < (r_.1.length : Int))))) rfl <| dnil ?_
   exact hX _ (.putEq (by rw [hc1]; rfl) (.skp (.skp (.skp (.putEq (by rw [hc1]) (.refl _)) rfl) rfl) rfl))
 refine dnil ?_
 refine Sv.cnd rfl h (fun h => ?_) fun h => ?_
 ·refine ssr <| un1 rfl <| un1 rfl <| dnil <| Sv.ret ?_
  exact rt0 h rfl rfl ⟨rfl, rfl, rfl⟩
 ·refine Sv.skip <| Sv.seq <| ssr <| un1 rfl <| dnil <| Sv.block ?_
  obtain ⟨kk1, h⟩ := lim_some h
  refine Sv.weak (wcn [] rfl (.cf rfl rfl (.cf rfl rfl .nil)) .nil) (Zay h ?_ (fun s hs => hs))
  ·intro _ h _ hw1
   refine Sv.weak hw1 <| ssr <| un1 rfl <| dnil <| Sv.seq <| ssr <| un1 rfl <| dnil <| Sv.block ?_
   obtain ⟨kk, h⟩ := lim_some h
   refine Sv.weak (wcn [] rfl (.cf rfl rfl (.cf rfl rfl (.cf rfl rfl .nil))) .nil) (Zaz h ?_ (fun s hs => hs))
   ·intro k_1 h _ hw2
    refine Sv.weak hw2 <| Sv.seq <| ssr <| un1 rfl <| un1 (v := (I (r_.1.length : Int))) rfl <| un1 (v := (B (decide (0 < (r_.1.length : Int))))) rfl <| un1 rfl ?_
    refine spl h (fun h => ?_) fun h => ?_
    ·refine gt rfl <| a1 rfl ?_
     obtain ⟨c_4, hx5, h⟩ := bnd h
     refine gt rfl <| a1 (v := (.c (.val (.int .u8 (c_4.toNat : Int))))) (s_idxS rfl rfl hx5) <| gt rfl <| a1 (v := (B (decide ((c_4.toNat : Int) = 45)))) rfl <| un1 (v := (B (decide ((c_4.toNat : Int) = 45)))) rfl <| dnil ?_
     exact Sv.weak (wcn [] rfl (.cf rfl rfl (.cf rfl rfl (.cf rfl rfl .nil))) .nil) (Z6p h)
    ·refine gs rfl rfl <| gs rfl rfl <| gs rfl rfl <| un1 (v := (B false)) rfl <| dnil ?_
     exact Sv.weak (wcn [] rfl (.cf rfl rfl (.cf rfl rfl (.cf rfl rfl .nil))) .nil) (Z6p h)
def a10_c0 : ACode := (.cond (.tmp 54) .skip (.exit 0))
def a10_c1 : ACode := (.region [(mV 55 11), (oP 56 (.bin .add (.tmp 55) (kI 1))), (mV 11 56)])
def a10_c2 : ACode := (.seq (.block 1 (.seq (.drawn (.fin [((oP 57 (.load true 2 (.tmp 3))), (0, 0)), ((mV 58 1), (0, 1)), ((oP 59 (.faddr 0 (.tmp 3))), (0, 2)), ((oP 60 (.load false 1 (.tmp 59))), (0, 3)), ((mV 61 9), (0, 4)), ((oP 62 (.iaddr 6 (.tmp 60) (.tmp 61))), (0, 5)), ((oP 63 (.faddr 5 (.tmp 62))), (0, 6)), ((oP 64 (.load false 1 (.tmp 63))), (0, 7)), ((mV 65 11), (0, 8)), ((oP 66 (.iaddr 1 (.tmp 64) (.tmp 65))), (0, 9)), ((oP 67 (.load false 1 (.tmp 66))), (0, 10)), ((oP 68 (.call 11 [(.tmp 57), (.tmp 58), (.tmp 67)])), (2, 11))]))
 (.cond (.tmp 68) (.region [(oP 69 (.faddr 0 (.tmp 3))), (oP 70 (.load false 1 (.tmp 69))), (mV 71 9), (oP 72 (.iaddr 6 (.tmp 70) (.tmp 71))), (oP 73 (.faddr 5 (.tmp 72))), (oP 74 (.load false 1 (.tmp 73))), (mV 75 11), (oP 76 (.iaddr 1 (.tmp 74) (.tmp 75))), (oP 77 (.load false 1 (.tmp 76))), (mV 10 77)]) .skip)))
 a10_c1)
def a10_c3 : ACode := (.seq (sr [(mV 33 11), (oP 34 (.faddr 0 (.tmp 3))), (oP 35 (.load false 1 (.tmp 34))), (mV 36 9), (oP 37 (.iaddr 6 (.tmp 35) (.tmp 36))), (oP 38 (.faddr 5 (.tmp 37))), (oP 39 (.load false 1 (.tmp 38))), (oP 40 (.len (.tmp 39))), (oP 41 (.bin .lss (.tmp 33) (.tmp 40))), (mV 42 41), ⟨(some 43), (.faddr 0 (.tmp 3)), (some (42, true))⟩, ⟨(some 44), (.load false 1 (.tmp 43)), (some (42, true))⟩, ⟨(some 45), (.mov (.tmp 9)), (some (42, true))⟩, ⟨(some 46), (.iaddr 6 (.tmp 44) (.tmp 45)), (some (42, true))⟩, ⟨(some 47), (.faddr 5 (.tmp 46)), (some (42, true))⟩, ⟨(some 48), (.load false 1 (.tmp 47)), (some (42, true))⟩, ⟨(some 49), (.mov (.tmp 11)), (some (42, true))⟩, ⟨(some 50), (.iaddr 1 (.tmp 48) (.tmp 49)), (some (42, true))⟩, ⟨(some 51), (.load false 1 (.tmp 50)), (some (42, true))⟩, ⟨(some 52), (.mov (.tmp 2)), (some (42, true))⟩, ⟨(some 53), (.bin .neq (.tmp 51) (.tmp 52)), (some (42, true))⟩, (oP 54 (.pick (.tmp 42) (.tmp 53) kF))]
 a10_c0)
 a10_c2)
def a10 : AFunc := ⟨3, [(.tmp 6)], (sr [(oP 3 (.box (.tmp 0))), (oP 6 (.mov (kI 0)))]
 (.seq (sr [(oP 12 (.load true 2 (.tmp 3))), (mV 13 1), (mV 14 2), (oP 15 (.call 11 [(.tmp 12), (.tmp 13), (.tmp 14)])), (oP 16 (.un .not (.tmp 15)))]
 (.cond (.tmp 16) (sr [(oP 6 (.mov (kI 0)))]
 .ret) .skip))
 (sr [(oP 18 (.load true 2 (.tmp 3))), (mV 19 2), (oP 20 (.call 27 [(.tmp 18), (.tmp 19), (.const (.c (.str [118, 97, 108, 117, 101])))])), (mV 17 20), (oP 21 (.ext (.tmp 17) 0)), (oP 22 (.ext (.tmp 17) 1)), (mV 7 21), (mV 8 22)]
 (.seq (sr [(mV 23 8)]
 (.cond (.tmp 23) (sr [(mV 24 7), (mV 6 24)]
 .ret) .skip))
 (sr [(oP 25 (.faddr 0 (.tmp 3))), (oP 26 (.load false 1 (.tmp 25))), (mV 27 2), (oP 28 (.iaddr 6 (.tmp 26) (.tmp 27))), (oP 29 (.faddr 4 (.tmp 28))), (oP 30 (.load false 1 (.tmp 29))), (mV 9 30)]
 (.seq (sr [(mV 31 9), (oP 32 (.bin .lss (.tmp 31) (kI 0)))]
 (.cond (.tmp 32) (sr [(oP 6 (.mov (kI 1)))]
 .ret) .skip))
 (sr [(oP 10 (.mov (.const (.c (.val (.int .i64 (-1)))))))]
 (.seq (sr [(oP 11 (.mov (kI 0)))]
 (.block 0 (.loop a10_c3)))
 (.seq (sr [(mV 78 10), (oP 79 (.bin .geq (.tmp 78) (kI 0)))]
 (.cond (.tmp 79) (sr [(oP 80 (.load true 2 (.tmp 3))), (mV 81 1), (mV 82 10), (oP 83 (.call 10 [(.tmp 80), (.tmp 81), (.tmp 82)])), (oP 84 (.bin .add (.tmp 83) (kI 1))), (oP 85 (.mm false [(.tmp 84), (kI 1000000)])), (mV 6 85)]
 .ret) .skip))
 (sr [(oP 87 (.load true 2 (.tmp 3))), (mV 88 9), (oP 89 (.call 27 [(.tmp 87), (.tmp 88), (.const (.c (.str [115, 116, 97, 114, 116])))])), (mV 86 89), (oP 90 (.ext (.tmp 86) 0)), (oP 91 (.ext (.tmp 86) 1)), (mV 7 90), (mV 8 91)]
 (.seq (sr [(mV 92 8)]
 (.cond (.tmp 92) (sr [(mV 93 7), (mV 6 93)]
 .ret) .skip))
 (sr [(oP 6 (.mov (kI 1)))]
 .ret))))))))))))⟩
theorem c10 : compFunc Tryz.prog 10 = some a10 := by kernel_rfl
def Z3i (r : Int) : AV → Heap → Nat → Prop := fun v h' n' => v = (I r) ∧ (h' = e0) ∧ n' = 0
def Zb1 (mL : Int) (recf : TDoc → (List (Ar59 TVal)) → Int → Option Int) : Prop := ∀ (d_ : TDoc) (l_ : (List (Ar59 TVal))) (n_ : Int) (r : Int), recf d_ l_ n_ = some r → CPure Tryz.prog (GG mL) 10 [(.agg (e_TDoc d_)), (.c (.ro false 118 (l_.map (eA59 e_TVal)))), (I n_)] (I r)
abbrev Z4a (l_ : (List (Ar59 TVal))) (n_ : Int) (x_ : TNode) (d_ : TDoc) (F_ : Int → Int → Option Int) (o : Int) (R_ : St → Prop) : Prop := ∀ (ahead : Int) (i_ : Int), F_ ahead i_ = some o → ∀ s, Weak 0 s ⟨(ue [(11, (I i_)), (10, (I ahead)), (9, (I x_.Parent)), (3, (.c (.ref 0 2 0 0))), (2, (I n_)), (1, (.c (.ro false 118 (l_.map (eA59 e_TVal)))))]), (upd e0 0 (some (.cells 2 [(e_TDoc d_)]))), 1⟩ → R_ s
abbrev Z4b (l_ : (List (Ar59 TVal))) (x_ : TNode) (d_ : TDoc) (F_ : Int → Option Int) (o : Int) (R_ : St → Prop) : Prop := ∀ (ahead1 : Int), F_ ahead1 = some o → ∀ s, Weak 0 s ⟨(ue [(10, (I ahead1)), (9, (I x_.Parent)), (3, (.c (.ref 0 2 0 0))), (1, (.c (.ro false 118 (l_.map (eA59 e_TVal)))))]), (upd e0 0 (some (.cells 2 [(e_TDoc d_)]))), 1⟩ → R_ s
noncomputable def Z2r (i_ : Int) (l_ : (List (Ar59 TVal))) (n_ : Int) (x_ : TNode) (d_ : TDoc) (self : Int → Int → Option Int) (K0_ : Int → Option Int) (ahead2 : Int) : Option Int :=
 self ahead2 (wi (i_ + 1))
theorem Z6r {mL : Int} {Q : AExit → St → Prop} {i_ : Int} {l_ : (List (Ar59 TVal))} {n_ : Int} {x_ : TNode} {d_ : TDoc} {self : Int → Int → Option Int} {K0_ : Int → Option Int} {ahead2 : Int} {o : Int} (h : Z2r i_ l_ n_ x_ d_ self K0_ ahead2 = some o)
  (hself : Z4a l_ n_ x_ d_ self o (Q .normal))
  (hK0 : Z4b l_ x_ d_ K0_ o (Q (.exit 0)))
  (hr : ∀ s, Ends a10.results 0 (Z3i o) .ret s → Q .ret s) :
  Sv Tryz.prog (GG mL) 0 a10_c1 Q ⟨(ue [(11, (I i_)), (10, (I ahead2)), (9, (I x_.Parent)), (3, (.c (.ref 0 2 0 0))), (2, (I n_)), (1, (.c (.ro false 118 (l_.map (eA59 e_TVal)))))]), (upd e0 0 (some (.cells 2 [(e_TDoc d_)]))), 1⟩ := by
 unfold Z2r at h
 refine srg <| un1 rfl <| un1 (v := (I (wi (i_ + 1)))) rfl <| un1 rfl <| dnil ?_
 exact hself ahead2 (wi (i_ + 1)) h _ (wcn [0] rfl (.cf rfl rfl (.cf rfl rfl (.cf rfl rfl (.cr rfl rfl rfl (.cf rfl rfl (.cf rfl rfl .nil)))))) (.box (by decide) rfl (blkAs_cells (.sm rfl (.sm rfl .nil))) .nil))
abbrev Zb2 (mL : Int) (Q : AExit → St → Prop) : AExit → St → Prop := AThen (Sv Tryz.prog (GG mL) 0 a10_c2 Q) Q
noncomputable def Z27 (d_ : TDoc) (x_ : TNode) (i_ : Int) (l_ : (List (Ar59 TVal))) (n_ : Int) (ahead : Int) (self : Int → Int → Option Int) (K0_ : Int → Option Int) (v54 : Bool) : Option Int :=
 if v54 then
  (at? d_.Nodes x_.Parent).bind fun x_1 =>
  (at? x_1.Kids i_).bind fun x_2 =>
  (Z12 d_ l_ x_2).bind fun r_2 =>
  if r_2 then
   (at? d_.Nodes x_.Parent).bind fun x_3 =>
   (at? x_3.Kids i_).bind fun x_4 =>
   Z2r i_ l_ n_ x_ d_ self K0_ x_4
  else
   Z2r i_ l_ n_ x_ d_ self K0_ ahead
 else
  K0_ ahead
theorem Z6s {mL : Int} {Q : AExit → St → Prop} {d_ : TDoc} {x_ : TNode} {i_ : Int} {l_ : (List (Ar59 TVal))} {n_ : Int} {ahead : Int} {self : Int → Int → Option Int} {K0_ : Int → Option Int} {v54 : Bool} {o : Int} (h : Z27 d_ x_ i_ l_ n_ ahead self K0_ v54 = some o)
  (hself : Z4a l_ n_ x_ d_ self o (Q .normal))
  (hK0 : Z4b l_ x_ d_ K0_ o (Q (.exit 0)))
  (hr : ∀ s, Ends a10.results 0 (Z3i o) .ret s → Q .ret s) :
  Sv Tryz.prog (GG mL) 0 a10_c0 (Zb2 mL Q) ⟨(ue [(54, (B v54)), (11, (I i_)), (10, (I ahead)), (9, (I x_.Parent)), (3, (.c (.ref 0 2 0 0))), (2, (I n_)), (1, (.c (.ro false 118 (l_.map (eA59 e_TVal)))))]), (upd e0 0 (some (.cells 2 [(e_TDoc d_)]))), 1⟩ := by
 unfold Z27 at h
 refine Sv.cnd rfl h (fun h => ?_) fun h => ?_
 ·refine Sv.skip <| Sv.seq <| Sv.block <| Sv.seq <| Sv.drawn <| un1 (v := (.agg (e_TDoc d_))) rfl <| un1 rfl <| un1 (v := (.c (.ref 0 2 0 0))) rfl <| un1 (v := (.c (.ro false 6 (d_.Nodes.map e_TNode)))) rfl <| un1 rfl ?_
  obtain ⟨x_1, hx2, h⟩ := bnd h
  refine un1 (v := (.c (.rop (e_TNode x_1)))) (s_iaddr (e := e_TNode) (xs := d_.Nodes) rfl rfl hx2) <| un1 (v := (.c (.rop [.ro false 1 (x_1.Kids.map eI)]))) rfl <| un1 (v := (.c (.ro false 1 (x_1.Kids.map eI)))) rfl <| un1 rfl ?_
  obtain ⟨x_2, hx3, h⟩ := bnd h
  refine un1 (v := (.c (.rop [cI x_2]))) (s_iaddr (e := eI) (xs := x_1.Kids) rfl rfl hx3) <| un1 (v := (I x_2)) rfl ?_
  obtain ⟨r_2, hr3, h⟩ := bnd h
  refine un <| ac_pure (Z3f hr3) rfl rfl rfl <| dnil ?_
  refine Sv.cnd rfl h (fun h => ?_) fun h => ?_
  ·refine srg <| un1 (v := (.c (.ref 0 2 0 0))) rfl <| un1 (v := (.c (.ro false 6 (d_.Nodes.map e_TNode)))) rfl <| un1 rfl ?_
   obtain ⟨x_3, hx4, h⟩ := bnd h
   refine un1 (v := (.c (.rop (e_TNode x_3)))) (s_iaddr (e := e_TNode) (xs := d_.Nodes) rfl rfl hx4) <| un1 (v := (.c (.rop [.ro false 1 (x_3.Kids.map eI)]))) rfl <| un1 (v := (.c (.ro false 1 (x_3.Kids.map eI)))) rfl <| un1 rfl ?_
   obtain ⟨x_4, hx5, h⟩ := bnd h
   refine un1 (v := (.c (.rop [cI x_4]))) (s_iaddr (e := eI) (xs := x_3.Kids) rfl rfl hx5) <| un1 (v := (I x_4)) rfl <| un1 rfl <| dnil ?_
   exact Sv.weak (wcn [0] rfl (.cf rfl rfl (.cf rfl rfl (.cf rfl rfl (.cr rfl rfl rfl (.cf rfl rfl (.cf rfl rfl .nil)))))) (.box (by decide) rfl (blkAs_cells (.sm rfl (.sm rfl .nil))) .nil)) (Z6r h hself hK0 hr)
  ·refine Sv.skip ?_
   exact Sv.weak (wcn [0] rfl (.cf rfl rfl (.cf rfl rfl (.cf rfl rfl (.cr rfl rfl rfl (.cf rfl rfl (.cf rfl rfl .nil)))))) (.box (by decide) rfl (blkAs_cells (.sm rfl (.sm rfl .nil))) .nil)) (Z6r h hself hK0 hr)
 ·refine Sv.exit ?_
  exact hK0 ahead h _ (wcn [0] rfl (.cf rfl rfl (.cf rfl rfl (.cr rfl rfl rfl (.cf rfl rfl .nil)))) (.box (by decide) rfl (blkAs_cells (.sm rfl (.sm rfl .nil))) .nil))
abbrev Z6t (l_ : (List (Ar59 TVal))) (n_ : Int) (x_ : TNode) (d_ : TDoc) (F_ : Nat → Int → Int → Option Int) (o : Int) : Nat → St → Prop := fun k s => ∃ (ahead : Int), ∃ (i_ : Int), F_ k ahead i_ = some o ∧ s = ⟨(ue [(11, (I i_)), (10, (I ahead)), (9, (I x_.Parent)), (3, (.c (.ref 0 2 0 0))), (2, (I n_)), (1, (.c (.ro false 118 (l_.map (eA59 e_TVal)))))]), (upd e0 0 (some (.cells 2 [(e_TDoc d_)]))), 1⟩
noncomputable def Zo (d_ : TDoc) (x_ : TNode) (l_ : (List (Ar59 TVal))) (n_ : Int) (K0_ : Int → Option Int) : Nat → Int → Int → Option Int
 | 0, _, _ => none
 | k + 1, ahead, i_ =>
  (at? d_.Nodes x_.Parent).bind fun x_5 =>
  if decide (i_ < (x_5.Kids.length : Int)) then
   (at? d_.Nodes x_.Parent).bind fun x_6 =>
   (at? x_6.Kids i_).bind fun x_7 =>
   Z27 d_ x_ i_ l_ n_ ahead (Zo d_ x_ l_ n_ K0_ k) K0_ (!decide (x_7 = n_))
  else
   Z27 d_ x_ i_ l_ n_ ahead (Zo d_ x_ l_ n_ K0_ k) K0_ false
theorem Zb3 {mL : Int} {Q : AExit → St → Prop} {d_ : TDoc} {x_ : TNode} {l_ : (List (Ar59 TVal))} {n_ : Int} {K0_ : Int → Option Int} {k : Nat} {ahead : Int} {i_ : Int} {o : Int} (h : Zo d_ x_ l_ n_ K0_ k ahead i_ = some o)
  (hK0 : Z4b l_ x_ d_ K0_ o (Q (.exit 0)))
  (hr : ∀ s, Ends a10.results 0 (Z3i o) .ret s → Q .ret s) :
  Sv Tryz.prog (GG mL) 0 (.loop a10_c3) Q ⟨(ue [(11, (I i_)), (10, (I ahead)), (9, (I x_.Parent)), (3, (.c (.ref 0 2 0 0))), (2, (I n_)), (1, (.c (.ro false 118 (l_.map (eA59 e_TVal)))))]), (upd e0 0 (some (.cells 2 [(e_TDoc d_)]))), 1⟩ := by
 refine Sv.loop (I := Z6t l_ n_ x_ d_ (Zo d_ x_ l_ n_ K0_) o) (fun k s hI => ?_) ⟨ahead, i_, h, rfl⟩
 clear h
 clear i_ ahead
 obtain ⟨ahead, i_, h, rfl⟩ := hI
 cases k with
 | zero => cases h
 | succ k =>
 rw [Zo] at h
 have hself : Z4a l_ n_ x_ d_ (Zo d_ x_ l_ n_ K0_ k) o (rnd 0 (Z6t l_ n_ x_ d_ (Zo d_ x_ l_ n_ K0_) o) k Q) := fun ahead i_ h s hw => ⟨_, k, hw, Nat.lt_succ_self k, ahead, i_, h, rfl⟩
 refine Sv.seq <| ssr <| un1 rfl <| un1 (v := (.c (.ref 0 2 0 0))) rfl <| un1 (v := (.c (.ro false 6 (d_.Nodes.map e_TNode)))) rfl <| un1 rfl ?_
 obtain ⟨x_5, hx6, h⟩ := bnd h
 refine un1 (v := (.c (.rop (e_TNode x_5)))) (s_iaddr (e := e_TNode) (xs := d_.Nodes) rfl rfl hx6) <| un1 (v := (.c (.rop [.ro false 1 (x_5.Kids.map eI)]))) rfl <| un1 (v := (.c (.ro false 1 (x_5.Kids.map eI)))) rfl <| un1 (v := (I (x_5.Kids.length : Int))) (s_len (e := eI) (xs := x_5.Kids) rfl) <| un1 (v := (B (decide (i_ < (x_5.Kids.length : Int))))) rfl <| un1 rfl ?_
 refine spl h (fun h => ?_) fun h => ?_
 ·refine gt rfl <| a1 (v := (.c (.ref 0 2 0 0))) rfl <| gt rfl <| a1 (v := (.c (.ro false 6 (d_.Nodes.map e_TNode)))) rfl <| gt rfl <| a1 rfl ?_
  obtain ⟨x_6, hx7, h⟩ := bnd h
  refine gt rfl <| a1 (v := (.c (.rop (e_TNode x_6)))) (s_iaddr (e := e_TNode) (xs := d_.Nodes) rfl rfl hx7) <| gt rfl <| a1 (v := (.c (.rop [.ro false 1 (x_6.Kids.map eI)]))) rfl <| gt rfl <| a1 (v := (.c (.ro false 1 (x_6.Kids.map eI)))) rfl <| gt rfl <| a1 rfl ?_
  obtain ⟨x_7, hx8, h⟩ := bnd h
  refine gt rfl <| a1 (v := (.c (.rop [cI x_7]))) (s_iaddr (e := eI) (xs := x_6.Kids) rfl rfl hx8) <| gt rfl <| a1 (v := (I x_7)) rfl <| gt rfl <| a1 rfl <| gt rfl <| a1 (v := (B (!decide (x_7 = n_)))) rfl <| un1 (v := (B (!decide (x_7 = n_)))) rfl <| dnil ?_
  exact Sv.weak (wcn [0] rfl (.cf rfl rfl (.cf rfl rfl (.cf rfl rfl (.cf rfl rfl (.cr rfl rfl rfl (.cf rfl rfl (.cf rfl rfl .nil))))))) (.box (by decide) rfl (blkAs_cells (.sm rfl (.sm rfl .nil))) .nil)) (Z6s h hself hK0 hr)
 ·repeat (first | refine gu rfl ?_ | refine gs rfl rfl ?_)
  refine un1 (v := (B false)) rfl <| dnil ?_
  exact Sv.weak (wcn [0] rfl (.cf rfl rfl (.cf rfl rfl (.cf rfl rfl (.cf rfl rfl (.cr rfl rfl rfl (.cf rfl rfl (.cf rfl rfl .nil))))))) (.box (by decide) rfl (blkAs_cells (.sm rfl (.sm rfl .nil))) .nil)) (Z6s h hself hK0 hr)
/-- clerestory/clerestoryref2.NumberOf -/
noncomputable def Z15 : Nat → TDoc → (List (Ar59 TVal)) → Int → Option Int
 | 0, _, _, _ => none
 | k + 1, d_, l_, n_ =>
  (Z12 d_ l_ n_).bind fun r_ =>
  if (!r_) then
   some 0
  else
   (Z26 d_ n_ [118, 97, 108, 117, 101]).bind fun r_1 =>
   if r_1.2 then
    some r_1.1
   else
    (at? d_.Nodes n_).bind fun x_ =>
    if decide (x_.Parent < 0) then
     some 1
    else
     lim fun kk => Zo d_ x_ l_ n_ (fun (ahead1 : Int) => 
       if decide (0 ≤ ahead1) then
        ((Z15 k) d_ l_ ahead1).bind fun r_3 =>
        some (mn (wi (r_3 + 1)) 1000000)
       else
        (Z26 d_ x_.Parent [115, 116, 97, 114, 116]).bind fun r_4 =>
        if r_4.2 then
         some r_4.1
        else
         some 1) kk (-1) 0
noncomputable def Z2s (d_ : TDoc) (l_ : (List (Ar59 TVal))) (n_ : Int) : Option Int :=
 lim fun kr => Z15 kr d_ l_ n_
theorem Zb4 {mL : Int} (k : Nat) : Zb1 mL (Z15 k) := by
 induction k with
 | zero => intro d_ l_ n_ r h; cases h
 | succ k hrec =>
 intro d_ l_ n_ r h
 refine acalls_of_sv hmix c10 (R := Z3i r) ?_
 rw [Z15] at h
 refine ssr <| un <| a2v (v := (.c (.ref 0 2 0 0))) (h' := upd _ 0 (some (.cells 2 [(e_TDoc d_)]))) (n' := 1) rfl rfl hcs <| un1 rfl <| dnil <| Sv.seq <| ssr <| un1 (v := (.agg (e_TDoc d_))) rfl <| un1 rfl <| un1 rfl ?_
 obtain ⟨r_, hr1, h⟩ := bnd h
 refine un <| ac_pure (Z3f hr1) rfl rfl rfl <| un1 (v := (B (!r_))) rfl <| dnil ?_
 refine Sv.cnd rfl h (fun h => ?_) fun h => ?_
 ·refine ssr <| un1 rfl <| dnil <| Sv.ret ?_
  exact rt0 h rfl rfl ⟨rfl, rfl, rfl⟩
 ·refine Sv.skip <| ssr <| un1 (v := (.agg (e_TDoc d_))) rfl <| un1 rfl ?_
  obtain ⟨r_1, hr2, h⟩ := bnd h
  refine un <| ac_pure (Z6q hr2) rfl rfl rfl <| un1 rfl <| un1 (v := (I r_1.1)) rfl <| un1 (v := (B r_1.2)) rfl <| un1 rfl <| un1 rfl <| dnil <| Sv.seq <| ssr <| un1 rfl <| dnil ?_
  refine Sv.cnd rfl h (fun h => ?_) fun h => ?_
  ·refine ssr <| un1 rfl <| un1 rfl <| dnil <| Sv.ret ?_
   exact rt0 h rfl rfl ⟨rfl, rfl, rfl⟩
  ·refine Sv.skip <| ssr <| un1 (v := (.c (.ref 0 2 0 0))) rfl <| un1 (v := (.c (.ro false 6 (d_.Nodes.map e_TNode)))) rfl <| un1 rfl ?_
   obtain ⟨x_, hx1, h⟩ := bnd h
   refine un1 (v := (.c (.rop (e_TNode x_)))) (s_iaddr (e := e_TNode) (xs := d_.Nodes) rfl rfl hx1) <| un1 (v := (.c (.rop [cI x_.Parent, .ro false 1 (x_.Kids.map eI)]))) rfl <| un1 (v := (I x_.Parent)) rfl <| un1 rfl <| dnil <| Sv.seq <| ssr <| un1 rfl <| un1 (v := (B (decide (x_.Parent < 0)))) rfl <| dnil ?_
   refine Sv.cnd rfl h (fun h => ?_) fun h => ?_
   ·refine ssr <| un1 rfl <| dnil <| Sv.ret ?_
    exact rt0 h rfl rfl ⟨rfl, rfl, rfl⟩
   ·refine Sv.skip <| ssr <| un1 rfl <| dnil <| Sv.seq <| ssr <| un1 rfl <| dnil <| Sv.block ?_
    obtain ⟨kk, h⟩ := lim_some h
    refine Sv.weak (wcn [0] rfl (.cf rfl rfl (.cf rfl rfl (.cf rfl rfl (.cr rfl rfl rfl (.cf rfl rfl (.cf rfl rfl .nil)))))) (.box (by decide) rfl (blkAs_cells (.sm rfl (.sm rfl .nil))) .nil)) (Zb3 h ?_ (fun s hs => hs))
    ·intro ahead1 h _ hw1
     refine Sv.weak hw1 <| Sv.seq <| ssr <| un1 rfl <| un1 (v := (B (decide (0 ≤ ahead1)))) rfl <| dnil ?_
     refine Sv.cnd rfl h (fun h => ?_) fun h => ?_
     ·refine ssr <| un1 (v := (.agg (e_TDoc d_))) rfl <| un1 rfl <| un1 rfl ?_
      obtain ⟨r_3, hr4, h⟩ := bnd h
      refine un <| ac_pure (hrec d_ l_ ahead1 _ hr4) rfl rfl rfl <| un1 (v := (I (wi (r_3 + 1)))) rfl <| un1 (v := (I (mn (wi (r_3 + 1)) 1000000))) (s_mn rfl rfl) <| un1 rfl <| dnil <| Sv.ret ?_
      exact rt0 h rfl rfl ⟨rfl, rfl, rfl⟩
     ·refine Sv.skip <| ssr <| un1 (v := (.agg (e_TDoc d_))) rfl <| un1 rfl ?_
      obtain ⟨r_4, hr5, h⟩ := bnd h
      refine un <| ac_pure (Z6q hr5) rfl rfl rfl <| un1 rfl <| un1 (v := (I r_4.1)) rfl <| un1 (v := (B r_4.2)) rfl <| un1 rfl <| un1 rfl <| dnil <| Sv.seq <| ssr <| un1 rfl <| dnil ?_
      refine Sv.cnd rfl h (fun h => ?_) fun h => ?_
      ·refine ssr <| un1 rfl <| un1 rfl <| dnil <| Sv.ret ?_
       exact rt0 h rfl rfl ⟨rfl, rfl, rfl⟩
      ·refine Sv.skip <| ssr <| un1 rfl <| dnil <| Sv.ret ?_
       exact rt0 h rfl rfl ⟨rfl, rfl, rfl⟩
theorem Zb5 {mL : Int} {d_ : TDoc} {l_ : (List (Ar59 TVal))} {n_ : Int} {r : Int} (h : Z2s d_ l_ n_ = some r) : CPure Tryz.prog (GG mL) 10 [(.agg (e_TDoc d_)), (.c (.ro false 118 (l_.map (eA59 e_TVal)))), (I n_)] (I r) := by
 unfold Z2s at h
 obtain ⟨k, h⟩ := lim_some h
 exact Zb4 k d_ l_ n_  r h
def a28 : AFunc := ⟨1, [(.tmp 2)], (sr [(oP 2 (.mov (.const (.c (.str [])))))]
 (.seq (sr [(mV 3 0), (oP 4 (.bin .eql (.tmp 3) (kI 0)))]
 (.cond (.tmp 4) (sr [(oP 2 (.mov (.const (.c (.str [])))))]
 .ret) .skip))
 (.seq (.drawn (.fin [((mV 5 0), (0, 0)), ((oP 6 (.bin .sub (.tmp 5) (kI 1))), (0, 1)), ((oP 7 (.bin .quo (.tmp 6) (kI 26))), (0, 2)), ((mV 9 0), (0, 4)), ((oP 10 (.bin .sub (.tmp 9) (kI 1))), (0, 5)), ((oP 11 (.bin .rem (.tmp 10) (kI 26))), (0, 6)), ((mV 12 0), (0, 7)), ((oP 13 (.bin .sub (.tmp 12) (kI 1))), (0, 8)), ((oP 14 (.bin .rem (.tmp 13) (kI 26))), (0, 9)), ((oP 15 (.bin .add (.tmp 14) (kI 1))), (0, 10)), ((oP 16 (.slStr (.const (.c (.str [97, 98, 99, 100, 101, 102, 103, 104, 105, 106, 107, 108, 109, 110, 111, 112, 113, 114, 115, 116, 117, 118, 119, 120, 121, 122]))) (some (.tmp 11)) (some (.tmp 15)))), (0, 11)), ((oP 8 (.call 28 [(.tmp 7)])), (2, 3)), ((oP 17 (.bin .add (.tmp 8) (.tmp 16))), (0, 12)), ((mV 2 17), (0, 13))]))
 .ret)))⟩
theorem c28 : compFunc Tryz.prog 28 = some a28 := by kernel_rfl
def Zb6 (r : Tx) : AV → Heap → Nat → Prop := fun v h' n' => v = (S r) ∧ (h' = e0) ∧ n' = 0
def Zb7 (mL : Int) (recf : Int → Option Tx) : Prop := ∀ (n_ : Int) (r : Tx), recf n_ = some r → CPure Tryz.prog (GG mL) 28 [(I n_)] (S r)
/-- clerestory/clerestoryref2.LettersOf -/
noncomputable def Z3j : Nat → Int → Option Tx
 | 0, _ => none
 | k + 1, n_ =>
  if decide (n_ = 0) then
   some []
  else
   (sub? [97, 98, 99, 100, 101, 102, 103, 104, 105, 106, 107, 108, 109, 110, 111, 112, 113, 114, 115, 116, 117, 118, 119, 120, 121, 122] ((wi (n_ - 1)).tmod 26) (wi (((wi (n_ - 1)).tmod 26) + 1))).bind fun r_ =>
   ((Z3j k) (wi ((wi (n_ - 1)).tdiv 26))).bind fun r_1 =>
   (cat? r_1 r_).bind fun r_2 =>
   some r_2
noncomputable def Z3k (n_ : Int) : Option Tx :=
 lim fun kr => Z3j kr n_
theorem Zb8 {mL : Int} (k : Nat) : Zb7 mL (Z3j k) := by
 induction k with
 | zero => intro n_ r h; cases h
 | succ k hrec =>
 intro n_ r h
 refine acalls_of_sv hmix c28 (R := Zb6 r) ?_
 rw [Z3j] at h
 refine ssr <| un1 rfl <| dnil <| Sv.seq <| ssr <| un1 rfl <| un1 (v := (B (decide (n_ = 0)))) rfl <| dnil ?_
 refine Sv.cnd rfl h (fun h => ?_) fun h => ?_
 ·refine ssr <| un1 rfl <| dnil <| Sv.ret ?_
  exact rt0 h rfl rfl ⟨rfl, rfl, rfl⟩
 ·refine Sv.skip <| Sv.seq <| Sv.drawn <| un1 rfl <| un1 (v := (I (wi (n_ - 1)))) rfl <| un1 (v := (I (wi ((wi (n_ - 1)).tdiv 26)))) rfl <| un1 rfl <| un1 (v := (I (wi (n_ - 1)))) rfl <| un1 (v := (I ((wi (n_ - 1)).tmod 26))) rfl <| un1 rfl <| un1 (v := (I (wi (n_ - 1)))) rfl <| un1 (v := (I ((wi (n_ - 1)).tmod 26))) rfl <| un1 (v := (I (wi (((wi (n_ - 1)).tmod 26) + 1)))) rfl ?_
  obtain ⟨r_, hx1, h⟩ := bnd h
  refine un1 (v := (S r_)) (s_slStr rfl rfl rfl hx1) ?_
  obtain ⟨r_1, hr1, h⟩ := bnd h
  refine un <| ac_pure (hrec (wi ((wi (n_ - 1)).tdiv 26)) _ hr1) rfl rfl rfl ?_
  obtain ⟨r_2, hx2, h⟩ := bnd h
  refine un1 (v := (S r_2)) (s_cat rfl rfl hx2) <| un1 rfl <| dnil <| Sv.ret ?_
  exact rt0 h rfl rfl ⟨rfl, rfl, rfl⟩
theorem Z6u {mL : Int} {n_ : Int} {r : Tx} (h : Z3k n_ = some r) : CPure Tryz.prog (GG mL) 28 [(I n_)] (S r) := by
 unfold Z3k at h
 obtain ⟨k, h⟩ := lim_some h
 exact Zb8 k n_  r h
def a29_c0 : ACode := (.cond (.tmp 24) (.region [(mV 25 3), (mV 26 4), (mV 27 3), (mV 28 4), (oP 29 (.iaddr 1 (.tmp 27) (.tmp 28))), (oP 30 (.load false 1 (.tmp 29))), (oP 31 (.bin .sub (.tmp 30) (.const (.c (.val (.int .u8 32)))))), (oP 32 (.iaddr 1 (.tmp 25) (.tmp 26))), (oN (.store 1 (.tmp 32) (.tmp 31)))]) .skip)
def a29_c1 : ACode := (.region [(mV 11 4), (oP 12 (.bin .add (.tmp 11) (kI 1))), (mV 4 12)])
def a29_c2 : ACode := (.seq (sr [(mV 7 4), (mV 8 3), (oP 9 (.len (.tmp 8))), (oP 10 (.bin .lss (.tmp 7) (.tmp 9)))]
 (.cond (.tmp 10) .skip (.exit 0)))
 (.seq (.block 1 (sr [(mV 13 3), (mV 14 4), (oP 15 (.iaddr 1 (.tmp 13) (.tmp 14))), (oP 16 (.load false 1 (.tmp 15))), (oP 17 (.bin .geq (.tmp 16) (.const (.c (.val (.int .u8 97)))))), (mV 18 17), ⟨(some 19), (.mov (.tmp 3)), (some (18, true))⟩, ⟨(some 20), (.mov (.tmp 4)), (some (18, true))⟩, ⟨(some 21), (.iaddr 1 (.tmp 19) (.tmp 20)), (some (18, true))⟩, ⟨(some 22), (.load false 1 (.tmp 21)), (some (18, true))⟩, ⟨(some 23), (.bin .leq (.tmp 22) (.const (.c (.val (.int .u8 122))))), (some (18, true))⟩, (oP 24 (.pick (.tmp 18) (.tmp 23) kF))]
 a29_c0))
 a29_c1))
def a29 : AFunc := ⟨1, [(.tmp 2)], (sr [(oP 2 (.mov (.const (.c (.str [])))))]
 (sr [(mV 5 0), (oP 6 (.toBytes (.tmp 5))), (mV 3 6)]
 (.seq (sr [(oP 4 (.mov (kI 0)))]
 (.block 0 (.loop a29_c2)))
 (sr [(mV 33 3), (oP 34 (.ofBytes (.tmp 33))), (mV 2 34)]
 .ret))))⟩
theorem c29 : compFunc Tryz.prog 29 = some a29 := by kernel_rfl
def Z3l (r : Tx) : AV → Heap → Nat → Prop := fun v h' n' => v = (S r) ∧ (h' = e0) ∧ n' = 0
abbrev Z4c (F_ : (List Int) → Int → Option Tx) (o : Tx) (R_ : St → Prop) : Prop := ∀ (b_ : (List Int)) (i_ : Int) (zb : Bool) (_ : zb = true → b_ = []), F_ b_ i_ = some o → ∀ s, Weak 0 s ⟨(ue [(4, (I i_)), (3, (lstV zb 0 1 b_.length))]), (upd e0 0 (lstB zb 1 (b_.map (eK .u8)))), 1⟩ → R_ s
abbrev Z4d (F_ : (List Int) → Option Tx) (o : Tx) (R_ : St → Prop) : Prop := ∀ (b_1 : (List Int)) (zb_1 : Bool) (_ : zb_1 = true → b_1 = []), F_ b_1 = some o → ∀ s, Weak 0 s ⟨(upd e0 3 (some (lstV zb_1 0 1 b_1.length))), (upd e0 0 (lstB zb_1 1 (b_1.map (eK .u8)))), 1⟩ → R_ s
noncomputable def Z3m (i_ : Int) (self : (List Int) → Int → Option Tx) (K0_ : (List Int) → Option Tx) (b_2 : (List Int)) : Option Tx :=
 self b_2 (wi (i_ + 1))
theorem Z6v {mL : Int} {Q : AExit → St → Prop} {i_ : Int} {self : (List Int) → Int → Option Tx} {K0_ : (List Int) → Option Tx} {b_2 : (List Int)} {zb_2 : Bool} (hzb_2 : zb_2 = true → b_2 = []) {o : Tx} (h : Z3m i_ self K0_ b_2 = some o)
  (hself : Z4c self o (Q .normal))
  (hK0 : Z4d K0_ o (Q (.exit 0)))
  (hr : ∀ s, Ends a29.results 0 (Z3l o) .ret s → Q .ret s) :
  Sv Tryz.prog (GG mL) 0 a29_c1 Q ⟨(ue [(4, (I i_)), (3, (lstV zb_2 0 1 b_2.length))]), (upd e0 0 (lstB zb_2 1 (b_2.map (eK .u8)))), 1⟩ := by
 unfold Z3m at h
 refine srg <| un1 rfl <| un1 (v := (I (wi (i_ + 1)))) rfl <| un1 rfl <| dnil ?_
 exact hself b_2 (wi (i_ + 1)) zb_2 hzb_2 h _ (wcn [0] rfl (.cf rfl rfl (.cons rfl (.c (lsr rfl rfl)) .nil)) (.row (by decide) rfl (fr_map fun _ => rfl) .nil))
abbrev Zb9 (mL : Int) (Q : AExit → St → Prop) : AExit → St → Prop := AThen (Sv Tryz.prog (GG mL) 0 a29_c1 Q) Q
abbrev Zba (mL : Int) (Q : AExit → St → Prop) : AExit → St → Prop := ABlock 1 (Zb9 mL Q)
noncomputable def Z3n (i_ : Int) (self : (List Int) → Int → Option Tx) (K0_ : (List Int) → Option Tx) (b_3 : (List Int)) (v24 : Bool) : Option Tx :=
 if v24 then
  (at? b_3 i_).bind fun x_ =>
  (at? b_3 i_).bind fun x_1 =>
  Z3m i_ self K0_ (b_3.set i_.toNat (wr .u8 (x_ - 32)))
 else
  Z3m i_ self K0_ b_3
theorem Z6w {mL : Int} {Q : AExit → St → Prop} {i_ : Int} {self : (List Int) → Int → Option Tx} {K0_ : (List Int) → Option Tx} {b_3 : (List Int)} {v24 : Bool} {zb_3 : Bool} (hzb_3 : zb_3 = true → b_3 = []) {o : Tx} (h : Z3n i_ self K0_ b_3 v24 = some o)
  (hself : Z4c self o (Q .normal))
  (hK0 : Z4d K0_ o (Q (.exit 0)))
  (hr : ∀ s, Ends a29.results 0 (Z3l o) .ret s → Q .ret s) :
  Sv Tryz.prog (GG mL) 0 a29_c0 (Zba mL Q) ⟨(ue [(24, (B v24)), (4, (I i_)), (3, (lstV zb_3 0 1 b_3.length))]), (upd e0 0 (lstB zb_3 1 (b_3.map (eK .u8)))), 1⟩ := by
 unfold Z3n at h
 refine Sv.cnd rfl h (fun h => ?_) fun h => ?_
 ·refine srg <| un1 rfl <| un1 rfl <| un1 rfl <| un1 rfl ?_
  obtain ⟨x_, hx1, h⟩ := bnd h
  refine un1 (v := (.c (.ref 0 1 i_.toNat 0))) (s_iaddrL rfl rfl hzb_3 hx1) <| un1 (v := (.c (.val (.int .u8 x_)))) (s_loadL (z := zb_3) (e := (eK .u8)) rfl rfl hzb_3 hx1 rfl rfl) <| un1 (v := (.c (.val (.int .u8 (wr .u8 (x_ - 32)))))) rfl ?_
  obtain ⟨x_1, hx2, h⟩ := bnd h
  refine un1 (v := (.c (.ref 0 1 i_.toNat 0))) (s_iaddrL rfl rfl hzb_3 hx2) <| un <| a2n (h' := upd _ 0 (lstB zb_3 1 ((b_3.set i_.toNat (wr .u8 (x_ - 32))).map (eK .u8)))) (n' := 1) rfl (s_storeL (e := (eK .u8)) (q' := (wr .u8 (x_ - 32))) rfl rfl hzb_3 hx2 rfl rfl rfl (Nat.le_of_ble_eq_true rfl) rfl) hcs ?_
  try rw [len_set b_3 i_.toNat (wr .u8 (x_ - 32))]
  refine dnil ?_
  exact Sv.weak (wcn [0] rfl (.cf rfl rfl (.cons rfl (.c (lsr rfl rfl)) .nil)) (.row (by decide) rfl (fr_map fun _ => rfl) .nil)) (Z6v (hz_len hzb_3 (len_set b_3 i_.toNat (wr .u8 (x_ - 32)))) h hself hK0 hr)
 ·refine Sv.skip ?_
  exact Sv.weak (wcn [0] rfl (.cf rfl rfl (.cons rfl (.c (lsr rfl rfl)) .nil)) (.row (by decide) rfl (fr_map fun _ => rfl) .nil)) (Z6v hzb_3 h hself hK0 hr)
abbrev Z6x (F_ : Nat → (List Int) → Int → Option Tx) (o : Tx) : Nat → St → Prop := fun k s => ∃ (b_ : (List Int)), ∃ (i_ : Int), ∃ (zb : Bool), (zb = true → b_ = []) ∧ F_ k b_ i_ = some o ∧ s = ⟨(ue [(4, (I i_)), (3, (lstV zb 0 1 b_.length))]), (upd e0 0 (lstB zb 1 (b_.map (eK .u8)))), 1⟩
noncomputable def Z16 (K0_ : (List Int) → Option Tx) : Nat → (List Int) → Int → Option Tx
 | 0, _, _ => none
 | k + 1, b_, i_ =>
  if decide (i_ < (b_.length : Int)) then
   (at? b_ i_).bind fun x_2 =>
   if decide (97 ≤ x_2) then
    (at? b_ i_).bind fun x_3 =>
    Z3n i_ (Z16 K0_ k) K0_ b_ (decide (x_3 ≤ 122))
   else
    Z3n i_ (Z16 K0_ k) K0_ b_ false
  else
   K0_ b_
theorem Zbb {mL : Int} {Q : AExit → St → Prop} {K0_ : (List Int) → Option Tx} {k : Nat} {b_ : (List Int)} {i_ : Int} {zb : Bool} (hzb : zb = true → b_ = []) {o : Tx} (h : Z16 K0_ k b_ i_ = some o)
  (hK0 : Z4d K0_ o (Q (.exit 0)))
  (hr : ∀ s, Ends a29.results 0 (Z3l o) .ret s → Q .ret s) :
  Sv Tryz.prog (GG mL) 0 (.loop a29_c2) Q ⟨(ue [(4, (I i_)), (3, (lstV zb 0 1 b_.length))]), (upd e0 0 (lstB zb 1 (b_.map (eK .u8)))), 1⟩ := by
 refine Sv.loop (I := Z6x (Z16 K0_) o) (fun k s hI => ?_) ⟨b_, i_, zb, hzb, h, rfl⟩
 clear h
 clear hzb zb i_ b_
 obtain ⟨b_, i_, zb, hzb, h, rfl⟩ := hI
 cases k with
 | zero => cases h
 | succ k =>
 rw [Z16] at h
 have hself : Z4c (Z16 K0_ k) o (rnd 0 (Z6x (Z16 K0_) o) k Q) := fun b_ i_ zb hzb h s hw => ⟨_, k, hw, Nat.lt_succ_self k, b_, i_, zb, hzb, h, rfl⟩
 refine Sv.seq <| ssr <| un1 rfl <| un1 rfl <| un1 (v := (I (b_.length : Int))) (s_lenL rfl (len_nil_of hzb)) <| un1 (v := (B (decide (i_ < (b_.length : Int))))) rfl <| dnil ?_
 refine Sv.cnd rfl h (fun h => ?_) fun h => ?_
 ·refine Sv.skip <| Sv.seq <| Sv.block <| ssr <| un1 rfl <| un1 rfl ?_
  obtain ⟨x_2, hx3, h⟩ := bnd h
  refine un1 (v := (.c (.ref 0 1 i_.toNat 0))) (s_iaddrL rfl rfl hzb hx3) <| un1 (v := (.c (.val (.int .u8 x_2)))) (s_loadL (z := zb) (e := (eK .u8)) rfl rfl hzb hx3 rfl rfl) <| un1 (v := (B (decide (97 ≤ x_2)))) rfl <| un1 rfl ?_
  refine spl h (fun h => ?_) fun h => ?_
  ·refine gt rfl <| a1 rfl <| gt rfl <| a1 rfl ?_
   obtain ⟨x_3, hx4, h⟩ := bnd h
   refine gt rfl <| a1 (v := (.c (.ref 0 1 i_.toNat 0))) (s_iaddrL rfl rfl hzb hx4) <| gt rfl <| a1 (v := (.c (.val (.int .u8 x_3)))) (s_loadL (z := zb) (e := (eK .u8)) rfl rfl hzb hx4 rfl rfl) <| gt rfl <| a1 (v := (B (decide (x_3 ≤ 122)))) rfl <| un1 (v := (B (decide (x_3 ≤ 122)))) rfl <| dnil ?_
   exact Sv.weak (wcn [0] rfl (.cf rfl rfl (.cf rfl rfl (.cons rfl (.c (lsr rfl rfl)) .nil))) (.row (by decide) rfl (fr_map fun _ => rfl) .nil)) (Z6w hzb h hself hK0 hr)
  ·repeat (first | refine gu rfl ?_ | refine gs rfl rfl ?_)
   refine un1 (v := (B false)) rfl <| dnil ?_
   exact Sv.weak (wcn [0] rfl (.cf rfl rfl (.cf rfl rfl (.cons rfl (.c (lsr rfl rfl)) .nil))) (.row (by decide) rfl (fr_map fun _ => rfl) .nil)) (Z6w hzb h hself hK0 hr)
 ·refine Sv.exit ?_
  exact hK0 b_ zb hzb h _ (wcn [0] rfl (.cons rfl (.c (lsr rfl rfl)) .nil) (.row (by decide) rfl (fr_map fun _ => rfl) .nil))
/-- clerestory/clerestoryref2.upper -/
noncomputable def Z3o (s_ : Tx) : Option Tx :=
 lim fun kk => Z16 (fun (b_1 : (List Int)) => 
   some (byts b_1)) kk (ints s_) 0
theorem Z6y {mL : Int} {s_ : Tx} {r : Tx} (h : Z3o s_ = some r) : CPure Tryz.prog (GG mL) 29 [(S s_)] (S r) := by
 refine acalls_of_sv hmix c29 (R := Z3l r) ?_
 unfold Z3o at h
 refine ssr <| un1 rfl <| dnil <| ssr <| un1 rfl <| un <| a2v (v := (lstV false 0 1 (ints s_).length)) (h' := upd _ 0 (lstB false 1 ((ints s_).map (eK .u8)))) (n' := 1) rfl (s_toBytes rfl) hcs <| un1 rfl <| dnil <| Sv.seq <| ssr <| un1 rfl <| dnil <| Sv.block ?_
 obtain ⟨kk, h⟩ := lim_some h
 refine Sv.weak (wcn [0] rfl (.cf rfl rfl (.cons rfl (.c (lsr rfl rfl)) .nil)) (.row (by decide) rfl (fr_map fun _ => rfl) .nil)) (Zbb hcs h ?_ (fun s hs => hs))
 ·intro b_1 zb_1 hzb_1 h _ hw1
  refine Sv.weak hw1 <| ssr <| un1 rfl <| un1 (v := (S (byts b_1))) (s_ofBytes (xs := b_1) rfl (slc_lst rfl (List.length_map _).symm (map_nil_of hzb_1))) <| un1 rfl <| dnil <| Sv.ret ?_
  exact rt0 h rfl rfl ⟨rfl, rfl, rfl⟩
def a30 : AFunc := ⟨1, [(.tmp 2)], (sr [(oP 2 (.mov (.const (.c (.str [])))))]
 (sr [(oP 7 (.bslice 1 [(.str [])] 10 [(0, (.const (.c (.str [])))), (1, (.const (.c (.str [105])))), (2, (.const (.c (.str [105, 105])))), (3, (.const (.c (.str [105, 105, 105])))), (4, (.const (.c (.str [105, 118])))), (5, (.const (.c (.str [118])))), (6, (.const (.c (.str [118, 105])))), (7, (.const (.c (.str [118, 105, 105])))), (8, (.const (.c (.str [118, 105, 105, 105])))), (9, (.const (.c (.str [105, 120]))))])), (mV 3 7)]
 (sr [(oP 8 (.bslice 1 [(.str [])] 10 [(0, (.const (.c (.str [])))), (1, (.const (.c (.str [120])))), (2, (.const (.c (.str [120, 120])))), (3, (.const (.c (.str [120, 120, 120])))), (4, (.const (.c (.str [120, 108])))), (5, (.const (.c (.str [108])))), (6, (.const (.c (.str [108, 120])))), (7, (.const (.c (.str [108, 120, 120])))), (8, (.const (.c (.str [108, 120, 120, 120])))), (9, (.const (.c (.str [120, 99]))))])), (mV 4 8)]
 (sr [(oP 9 (.bslice 1 [(.str [])] 10 [(0, (.const (.c (.str [])))), (1, (.const (.c (.str [99])))), (2, (.const (.c (.str [99, 99])))), (3, (.const (.c (.str [99, 99, 99])))), (4, (.const (.c (.str [99, 100])))), (5, (.const (.c (.str [100])))), (6, (.const (.c (.str [100, 99])))), (7, (.const (.c (.str [100, 99, 99])))), (8, (.const (.c (.str [100, 99, 99, 99])))), (9, (.const (.c (.str [99, 109]))))])), (mV 5 9)]
 (sr [(oP 10 (.bslice 1 [(.str [])] 4 [(0, (.const (.c (.str [])))), (1, (.const (.c (.str [109])))), (2, (.const (.c (.str [109, 109])))), (3, (.const (.c (.str [109, 109, 109]))))])), (mV 6 10)]
 (.seq (.drawn (.fin [((mV 11 6), (0, 0)), ((mV 12 0), (0, 1)), ((oP 13 (.bin .quo (.tmp 12) (kI 1000))), (0, 2)), ((oP 14 (.iaddr 1 (.tmp 11) (.tmp 13))), (0, 3)), ((oP 15 (.load false 1 (.tmp 14))), (0, 4)), ((mV 16 5), (0, 5)), ((mV 17 0), (0, 6)), ((oP 18 (.bin .quo (.tmp 17) (kI 100))), (0, 7)), ((oP 19 (.bin .rem (.tmp 18) (kI 10))), (0, 8)), ((oP 20 (.iaddr 1 (.tmp 16) (.tmp 19))), (0, 9)), ((oP 21 (.load false 1 (.tmp 20))), (0, 10)), ((oP 22 (.bin .add (.tmp 15) (.tmp 21))), (0, 11)), ((mV 23 4), (0, 12)), ((mV 24 0), (0, 13)), ((oP 25 (.bin .quo (.tmp 24) (kI 10))), (0, 14)), ((oP 26 (.bin .rem (.tmp 25) (kI 10))), (0, 15)), ((oP 27 (.iaddr 1 (.tmp 23) (.tmp 26))), (0, 16)), ((oP 28 (.load false 1 (.tmp 27))), (0, 17)), ((oP 29 (.bin .add (.tmp 22) (.tmp 28))), (0, 18)), ((mV 30 3), (0, 19)), ((mV 31 0), (0, 20)), ((oP 32 (.bin .rem (.tmp 31) (kI 10))), (0, 21)), ((oP 33 (.iaddr 1 (.tmp 30) (.tmp 32))), (0, 22)), ((oP 34 (.load false 1 (.tmp 33))), (0, 23)), ((oP 35 (.bin .add (.tmp 29) (.tmp 34))), (0, 24)), ((mV 2 35), (0, 25))]))
 .ret))))))⟩
theorem c30 : compFunc Tryz.prog 30 = some a30 := by kernel_rfl
def Zbc (r : Tx) : AV → Heap → Nat → Prop := fun v h' n' => v = (S r) ∧ (h' = e0) ∧ n' = 0
def Z4e : TT := [[], [105], [105, 105], [105, 105, 105], [105, 118], [118], [118, 105], [118, 105, 105], [118, 105, 105, 105], [105, 120]]
def Z4f : TT := [[], [120], [120, 120], [120, 120, 120], [120, 108], [108], [108, 120], [108, 120, 120], [108, 120, 120, 120], [120, 99]]
def Z4g : TT := [[], [99], [99, 99], [99, 99, 99], [99, 100], [100], [100, 99], [100, 99, 99], [100, 99, 99, 99], [99, 109]]
/-- clerestory/clerestoryref2.RomanOf -/
noncomputable def Z3p (n_ : Int) : Option Tx :=
 (at? ([[], [109], [109, 109], [109, 109, 109]] : TT) (wi (n_.tdiv 1000))).bind fun x_ =>
 (at? Z4g ((wi (n_.tdiv 100)).tmod 10)).bind fun x_1 =>
 (cat? x_ x_1).bind fun r_ =>
 (at? Z4f ((wi (n_.tdiv 10)).tmod 10)).bind fun x_2 =>
 (cat? r_ x_2).bind fun r_1 =>
 (at? Z4e (n_.tmod 10)).bind fun x_3 =>
 (cat? r_1 x_3).bind fun r_2 =>
 some r_2
theorem Z6z {mL : Int} {n_ : Int} {r : Tx} (h : Z3p n_ = some r) : CPure Tryz.prog (GG mL) 30 [(I n_)] (S r) := by
 refine acalls_of_sv hmix c30 (R := Zbc r) ?_
 unfold Z3p at h
 refine ssr <| un1 rfl <| dnil <| ssr <| un <| a2v (v := (lstV false 0 1 Z4e.length)) (h' := upd _ 0 (lstB false 1 (Z4e.map eStr))) (n' := 1) rfl rfl hcs <| un1 rfl <| dnil <| ssr <| un <| a2v (v := (lstV false 1 1 Z4f.length)) (h' := upd _ 1 (lstB false 1 (Z4f.map eStr))) (n' := 2) rfl rfl hcs <| un1 rfl <| dnil <| ssr <| un <| a2v (v := (lstV false 2 1 Z4g.length)) (h' := upd _ 2 (lstB false 1 (Z4g.map eStr))) (n' := 3) rfl rfl hcs <| un1 rfl <| dnil <| ssr <| un <| a2v (v := (lstV false 3 1 ([[], [109], [109, 109], [109, 109, 109]] : TT).length)) (h' := upd _ 3 (lstB false 1 (([[], [109], [109, 109], [109, 109, 109]] : TT).map eStr))) (n' := 4) rfl rfl hcs <| un1 rfl <| dnil <| Sv.seq <| Sv.drawn <| un1 rfl <| un1 rfl <| un1 (v := (I (wi (n_.tdiv 1000)))) rfl ?_
 obtain ⟨x_, hx1, h⟩ := bnd h
 refine un1 (v := (.c (.ref 3 1 (wi (n_.tdiv 1000)).toNat 0))) (s_iaddrL rfl rfl hcs hx1) <| un1 (v := (S x_)) (s_loadL (z := false) (e := eStr) rfl rfl hcs hx1 rfl rfl) <| un1 rfl <| un1 rfl <| un1 (v := (I (wi (n_.tdiv 100)))) rfl <| un1 (v := (I ((wi (n_.tdiv 100)).tmod 10))) rfl ?_
 obtain ⟨x_1, hx2, h⟩ := bnd h
 refine un1 (v := (.c (.ref 2 1 ((wi (n_.tdiv 100)).tmod 10).toNat 0))) (s_iaddrL rfl rfl hcs hx2) <| un1 (v := (S x_1)) (s_loadL (z := false) (e := eStr) rfl rfl hcs hx2 rfl rfl) ?_
 obtain ⟨r_, hx3, h⟩ := bnd h
 refine un1 (v := (S r_)) (s_cat rfl rfl hx3) <| un1 rfl <| un1 rfl <| un1 (v := (I (wi (n_.tdiv 10)))) rfl <| un1 (v := (I ((wi (n_.tdiv 10)).tmod 10))) rfl ?_
 obtain ⟨x_2, hx4, h⟩ := bnd h
 refine un1 (v := (.c (.ref 1 1 ((wi (n_.tdiv 10)).tmod 10).toNat 0))) (s_iaddrL rfl rfl hcs hx4) <| un1 (v := (S x_2)) (s_loadL (z := false) (e := eStr) rfl rfl hcs hx4 rfl rfl) ?_
 obtain ⟨r_1, hx5, h⟩ := bnd h
 refine un1 (v := (S r_1)) (s_cat rfl rfl hx5) <| un1 rfl <| un1 rfl <| un1 (v := (I (n_.tmod 10))) rfl ?_
 obtain ⟨x_3, hx6, h⟩ := bnd h
 refine un1 (v := (.c (.ref 0 1 (n_.tmod 10).toNat 0))) (s_iaddrL rfl rfl hcs hx6) <| un1 (v := (S x_3)) (s_loadL (z := false) (e := eStr) rfl rfl hcs hx6 rfl rfl) ?_
 obtain ⟨r_2, hx7, h⟩ := bnd h
 refine un1 (v := (S r_2)) (s_cat rfl rfl hx7) <| un1 rfl <| dnil <| Sv.ret ?_
 exact rt0 h rfl rfl ⟨rfl, rfl, rfl⟩
def a12 : AFunc := ⟨2, [(.tmp 4)], (sr [(oP 4 (.mov (.const (.c (.str [])))))]
 (.seq (sr [(mV 5 0), (oP 6 (.bin .eql (.tmp 5) (kI 0)))]
 (.cond (.tmp 6) (sr [(oP 4 (.mov (.const (.c (.str [])))))]
 .ret) .skip))
 (.seq (sr [(mV 7 0), (oP 8 (.bin .eql (.tmp 7) (kI 1)))]
 (.cond (.tmp 8) (sr [(oP 9 (.bslice 1 [(.val (.int .u8 0))] 3 [(0, (.const (.c (.val (.int .u8 226))))), (1, (.const (.c (.val (.int .u8 128))))), (2, (.const (.c (.val (.int .u8 162)))))])), (oP 10 (.ofBytes (.tmp 9))), (mV 4 10)]
 .ret) .skip))
 (.seq (sr [(mV 11 0), (oP 12 (.bin .eql (.tmp 11) (kI 3))), (mV 13 12), ⟨(some 14), (.mov (.tmp 1)), (some (13, true))⟩, ⟨(some 15), (.bin .gtr (.tmp 14) (kI 0)), (some (13, true))⟩, (oP 16 (.pick (.tmp 13) (.tmp 15) kF))]
 (.cond (.tmp 16) (sr [(mV 17 1), (oP 18 (.call 28 [(.tmp 17)])), (mV 4 18)]
 .ret) .skip))
 (.seq (sr [(mV 19 0), (oP 20 (.bin .eql (.tmp 19) (kI 4))), (mV 21 20), ⟨(some 22), (.mov (.tmp 1)), (some (21, true))⟩, ⟨(some 23), (.bin .gtr (.tmp 22) (kI 0)), (some (21, true))⟩, (oP 24 (.pick (.tmp 21) (.tmp 23) kF))]
 (.cond (.tmp 24) (sr [(mV 25 1), (oP 26 (.call 28 [(.tmp 25)])), (oP 27 (.call 29 [(.tmp 26)])), (mV 4 27)]
 .ret) .skip))
 (.seq (sr [(mV 28 0), (oP 29 (.bin .eql (.tmp 28) (kI 5))), (mV 30 29), ⟨(some 31), (.mov (.tmp 1)), (some (30, true))⟩, ⟨(some 32), (.bin .gtr (.tmp 31) (kI 0)), (some (30, true))⟩, (oP 33 (.pick (.tmp 30) (.tmp 32) kF)), (mV 34 33), ⟨(some 35), (.mov (.tmp 1)), (some (34, true))⟩, ⟨(some 36), (.bin .lss (.tmp 35) (kI 4000)), (some (34, true))⟩, (oP 37 (.pick (.tmp 34) (.tmp 36) kF))]
 (.cond (.tmp 37) (sr [(mV 38 1), (oP 39 (.call 30 [(.tmp 38)])), (mV 4 39)]
 .ret) .skip))
 (.seq (sr [(mV 40 0), (oP 41 (.bin .eql (.tmp 40) (kI 6))), (mV 42 41), ⟨(some 43), (.mov (.tmp 1)), (some (42, true))⟩, ⟨(some 44), (.bin .gtr (.tmp 43) (kI 0)), (some (42, true))⟩, (oP 45 (.pick (.tmp 42) (.tmp 44) kF)), (mV 46 45), ⟨(some 47), (.mov (.tmp 1)), (some (46, true))⟩, ⟨(some 48), (.bin .lss (.tmp 47) (kI 4000)), (some (46, true))⟩, (oP 49 (.pick (.tmp 46) (.tmp 48) kF))]
 (.cond (.tmp 49) (sr [(mV 50 1), (oP 51 (.call 30 [(.tmp 50)])), (oP 52 (.call 29 [(.tmp 51)])), (mV 4 52)]
 .ret) .skip))
 (sr [(mV 53 1), (oP 54 (.call 13 [(.tmp 53)])), (mV 4 54)]
 .ret))))))))⟩
theorem c12 : compFunc Tryz.prog 12 = some a12 := by kernel_rfl
def Zbd (r : Tx) : AV → Heap → Nat → Prop := fun v h' n' => v = (S r) ∧ (h' = e0) ∧ n' = 0
/-- clerestory/clerestoryref2.MarkOf -/
noncomputable def Z2t (kind : Int) (n_ : Int) : Option Tx :=
 if decide (kind = 0) then
  some []
 else
  if decide (kind = 1) then
   some (byts ([226, 128, 162] : List Int))
  else
   if ((decide (kind = 3)) && (decide (0 < n_))) then
    (Z3k n_).bind fun r_ =>
    some r_
   else
    if ((decide (kind = 4)) && (decide (0 < n_))) then
     (Z3k n_).bind fun r_1 =>
     (Z3o r_1).bind fun r_2 =>
     some r_2
    else
     if (((decide (kind = 5)) && (decide (0 < n_))) && (decide (n_ < 4000))) then
      (Z3p n_).bind fun r_3 =>
      some r_3
     else
      if (((decide (kind = 6)) && (decide (0 < n_))) && (decide (n_ < 4000))) then
       (Z3p n_).bind fun r_4 =>
       (Z3o r_4).bind fun r_5 =>
       some r_5
      else
       (Z1m n_).bind fun r_6 =>
       some r_6
theorem Zbe {mL : Int} {kind : Int} {n_ : Int} {r : Tx} (h : Z2t kind n_ = some r) : CPure Tryz.prog (GG mL) 12 [(I kind), (I n_)] (S r) := by
 refine acalls_of_sv hmix c12 (R := Zbd r) ?_
 unfold Z2t at h
 refine ssr <| un1 rfl <| dnil <| Sv.seq <| ssr <| un1 rfl <| un1 (v := (B (decide (kind = 0)))) rfl <| dnil ?_
 refine Sv.cnd rfl h (fun h => ?_) fun h => ?_
 ·refine ssr <| un1 rfl <| dnil <| Sv.ret ?_
  exact rt0 h rfl rfl ⟨rfl, rfl, rfl⟩
 ·refine Sv.skip <| Sv.seq <| ssr <| un1 rfl <| un1 (v := (B (decide (kind = 1)))) rfl <| dnil ?_
  refine Sv.cnd rfl h (fun h => ?_) fun h => ?_
  ·refine ssr <| un <| a2v (v := (lstV false 0 1 ([226, 128, 162] : List Int).length)) (h' := upd _ 0 (lstB false 1 (([226, 128, 162] : List Int).map (eK .u8)))) (n' := 1) rfl rfl hcs <| un1 (v := (S (byts ([226, 128, 162] : List Int)))) (s_ofBytes (xs := ([226, 128, 162] : List Int)) rfl (slc_lst rfl (List.length_map _).symm (map_nil_of hcs))) <| un1 rfl <| dnil <| Sv.ret ?_
   exact rt0 h rfl rfl ⟨rfl, rfl, rfl⟩
  ·refine Sv.skip <| Sv.seq <| ssr <| un1 rfl <| un1 (v := (B (decide (kind = 3)))) rfl <| un1 rfl ?_
   refine gjoin 3 (d := 16) (v := (B ((decide (kind = 3)) && (decide (0 < n_))))) (fun X hX => ?_) ?_
   ·refine split2 (fun hc3 => ?_) (fun hc3 => ?_)
    ·refine gt rfl <| a1 rfl <| gt rfl <| a1 (v := (B (decide (0 < n_)))) rfl <| un1 (v := (B (decide (0 < n_)))) rfl <| dnil ?_
     exact hX _ (.putEq (by rw [hc3]; rfl) (.skp (.skp (.putEq (by rw [hc3]) (.refl _)) rfl) rfl))
    ·refine gs rfl rfl <| gs rfl rfl <| un1 (v := (B false)) rfl <| dnil ?_
     exact hX _ (.putEq (by rw [hc3]; rfl) (.skp (.skp (.putEq (by rw [hc3]) (.refl _)) rfl) rfl))
   refine dnil ?_
   refine Sv.cnd rfl h (fun h => ?_) fun h => ?_
   ·refine ssr <| un1 rfl ?_
    obtain ⟨r_, hr1, h⟩ := bnd h
    refine un <| ac_pure (Z6u hr1) rfl rfl rfl <| un1 rfl <| dnil <| Sv.ret ?_
    exact rt0 h rfl rfl ⟨rfl, rfl, rfl⟩
   ·refine Sv.skip <| Sv.seq <| ssr <| un1 rfl <| un1 (v := (B (decide (kind = 4)))) rfl <| un1 rfl ?_
    refine gjoin 3 (d := 24) (v := (B ((decide (kind = 4)) && (decide (0 < n_))))) (fun X hX => ?_) ?_
    ·refine split2 (fun hc5 => ?_) (fun hc5 => ?_)
     ·refine gt rfl <| a1 rfl <| gt rfl <| a1 (v := (B (decide (0 < n_)))) rfl <| un1 (v := (B (decide (0 < n_)))) rfl <| dnil ?_
      exact hX _ (.putEq (by rw [hc5]; rfl) (.skp (.skp (.putEq (by rw [hc5]) (.refl _)) rfl) rfl))
     ·refine gs rfl rfl <| gs rfl rfl <| un1 (v := (B false)) rfl <| dnil ?_
      exact hX _ (.putEq (by rw [hc5]; rfl) (.skp (.skp (.putEq (by rw [hc5]) (.refl _)) rfl) rfl))
    refine dnil ?_
    refine Sv.cnd rfl h (fun h => ?_) fun h => ?_
    ·refine ssr <| un1 rfl ?_
     obtain ⟨r_1, hr2, h⟩ := bnd h
     refine un <| ac_pure (Z6u hr2) rfl rfl rfl ?_
     obtain ⟨r_2, hr3, h⟩ := bnd h
     refine un <| ac_pure (Z6y hr3) rfl rfl rfl <| un1 rfl <| dnil <| Sv.ret ?_
     exact rt0 h rfl rfl ⟨rfl, rfl, rfl⟩
    ·refine Sv.skip <| Sv.seq <| ssr <| un1 rfl <| un1 (v := (B (decide (kind = 5)))) rfl <| un1 rfl ?_
     refine gjoin 3 (d := 33) (v := (B ((decide (kind = 5)) && (decide (0 < n_))))) (fun X hX => ?_) ?_
     ·refine split2 (fun hc7 => ?_) (fun hc7 => ?_)
      ·refine gt rfl <| a1 rfl <| gt rfl <| a1 (v := (B (decide (0 < n_)))) rfl <| un1 (v := (B (decide (0 < n_)))) rfl <| dnil ?_
       exact hX _ (.putEq (by rw [hc7]; rfl) (.skp (.skp (.putEq (by rw [hc7]) (.refl _)) rfl) rfl))
      ·refine gs rfl rfl <| gs rfl rfl <| un1 (v := (B false)) rfl <| dnil ?_
       exact hX _ (.putEq (by rw [hc7]; rfl) (.skp (.skp (.putEq (by rw [hc7]) (.refl _)) rfl) rfl))
     refine un1 rfl ?_
     refine gjoin 3 (d := 37) (v := (B (((decide (kind = 5)) && (decide (0 < n_))) && (decide (n_ < 4000))))) (fun X hX => ?_) ?_
     ·refine split2 (fun hc8 => ?_) (fun hc8 => ?_)
      ·refine gt rfl <| a1 rfl <| gt rfl <| a1 (v := (B (decide (n_ < 4000)))) rfl <| un1 (v := (B (decide (n_ < 4000)))) rfl <| dnil ?_
       exact hX _ (.putEq (by rw [hc8]; rfl) (.skp (.skp (.putEq (by rw [hc8]) (.refl _)) rfl) rfl))
      ·refine gs rfl rfl <| gs rfl rfl <| un1 (v := (B false)) rfl <| dnil ?_
       exact hX _ (.putEq (by rw [hc8]; rfl) (.skp (.skp (.putEq (by rw [hc8]) (.refl _)) rfl) rfl))
     refine dnil ?_
     refine Sv.cnd rfl h (fun h => ?_) fun h => ?_
     ·refine ssr <| un1 rfl ?_
      obtain ⟨r_3, hr4, h⟩ := bnd h
      refine un <| ac_pure (Z6z hr4) rfl rfl rfl <| un1 rfl <| dnil <| Sv.ret ?_
      exact rt0 h rfl rfl ⟨rfl, rfl, rfl⟩
     ·refine Sv.skip <| Sv.seq <| ssr <| un1 rfl <| un1 (v := (B (decide (kind = 6)))) rfl <| un1 rfl ?_
      refine gjoin 3 (d := 45) (v := (B ((decide (kind = 6)) && (decide (0 < n_))))) (fun X hX => ?_) ?_
      ·refine split2 (fun hc10 => ?_) (fun hc10 => ?_)
       ·refine gt rfl <| a1 rfl <| gt rfl <| a1 (v := (B (decide (0 < n_)))) rfl <| un1 (v := (B (decide (0 < n_)))) rfl <| dnil ?_
        exact hX _ (.putEq (by rw [hc10]; rfl) (.skp (.skp (.putEq (by rw [hc10]) (.refl _)) rfl) rfl))
       ·refine gs rfl rfl <| gs rfl rfl <| un1 (v := (B false)) rfl <| dnil ?_
        exact hX _ (.putEq (by rw [hc10]; rfl) (.skp (.skp (.putEq (by rw [hc10]) (.refl _)) rfl) rfl))
      refine un1 rfl ?_
      refine gjoin 3 (d := 49) (v := (B (((decide (kind = 6)) && (decide (0 < n_))) && (decide (n_ < 4000))))) (fun X hX => ?_) ?_
      ·refine split2 (fun hc11 => ?_) (fun hc11 => ?_)
       ·refine gt rfl <| a1 rfl <| gt rfl <| a1 (v := (B (decide (n_ < 4000)))) rfl <| un1 (v := (B (decide (n_ < 4000)))) rfl <| dnil ?_
        exact hX _ (.putEq (by rw [hc11]; rfl) (.skp (.skp (.putEq (by rw [hc11]) (.refl _)) rfl) rfl))
       ·refine gs rfl rfl <| gs rfl rfl <| un1 (v := (B false)) rfl <| dnil ?_
        exact hX _ (.putEq (by rw [hc11]; rfl) (.skp (.skp (.putEq (by rw [hc11]) (.refl _)) rfl) rfl))
      refine dnil ?_
      refine Sv.cnd rfl h (fun h => ?_) fun h => ?_
      ·refine ssr <| un1 rfl ?_
       obtain ⟨r_4, hr5, h⟩ := bnd h
       refine un <| ac_pure (Z6z hr5) rfl rfl rfl ?_
       obtain ⟨r_5, hr6, h⟩ := bnd h
       refine un <| ac_pure (Z6y hr6) rfl rfl rfl <| un1 rfl <| dnil <| Sv.ret ?_
       exact rt0 h rfl rfl ⟨rfl, rfl, rfl⟩
      ·refine Sv.skip <| ssr <| un1 rfl ?_
       obtain ⟨r_6, hr7, h⟩ := bnd h
       refine un <| ac_pure (Z48 hr7) rfl rfl rfl <| un1 rfl <| dnil <| Sv.ret ?_
       exact rt0 h rfl rfl ⟨rfl, rfl, rfl⟩
def a3_c0 : ACode := (.cond (.tmp 96) (.region [(mV 97 12), (oP 98 (.call 12 [(kI 1), (.tmp 97)])), (mV 13 98)]) .skip)
def a3_c3 : ACode := (.cond (.tmp 111) (.region [(mV 112 12), (oP 113 (.call 13 [(.tmp 112)])), (oP 114 (.bin .add (.tmp 113) (.const (.c (.str [46]))))), (mV 13 114)]) .skip)
def a3_c5 : ACode := (.cond (.tmp 128) (sr [(oP 4 (.mov kF))]
 .ret) .skip)
def a3_c4 : ACode := (sr [(mV 115 6), (mV 116 11), (oP 117 (.iaddr 1 (.tmp 115) (.tmp 116))), (oP 118 (.load false 1 (.tmp 117))), (mV 119 12), (oP 120 (.bin .neq (.tmp 118) (.tmp 119))), (mV 121 120), ⟨(some 122), (.mov (.tmp 8)), (some (121, false))⟩, ⟨(some 123), (.mov (.tmp 11)), (some (121, false))⟩, ⟨(some 124), (.iaddr 1 (.tmp 122) (.tmp 123)), (some (121, false))⟩, ⟨(some 125), (.load false 1 (.tmp 124)), (some (121, false))⟩, ⟨(some 126), (.mov (.tmp 13)), (some (121, false))⟩, ⟨(some 127), (.bin .neq (.tmp 125) (.tmp 126)), (some (121, false))⟩, (oP 128 (.pick (.tmp 121) kT (.tmp 127)))]
 a3_c5)
def a3_c2 : ACode := (.seq (sr [(oP 99 (.load true 2 (.tmp 2))), (mV 100 1), (mV 101 11), (oP 102 (.call 11 [(.tmp 99), (.tmp 100), (.tmp 101)])), (mV 103 102), ⟨(some 104), (.mov (.tmp 1)), (some (103, true))⟩, ⟨(some 105), (.mov (.tmp 11)), (some (103, true))⟩, ⟨(some 106), (.iaddr 118 (.tmp 104) (.tmp 105)), (some (103, true))⟩, ⟨(some 107), (.iaddrA 59 2 (.tmp 106) (kI 57)), (some (103, true))⟩, ⟨(some 108), (.faddr 1 (.tmp 107)), (some (103, true))⟩, ⟨(some 109), (.load false 1 (.tmp 108)), (some (103, true))⟩, ⟨(some 110), (.bin .eql (.tmp 109) (kI 2)), (some (103, true))⟩, (oP 111 (.pick (.tmp 103) (.tmp 110) kF))]
 a3_c3)
 a3_c4)
def a3_c1 : ACode := (.region [(mV 78 11), (oP 79 (.bin .add (.tmp 78) (kI 1))), (mV 11 79)])
def a3_c6 : ACode := (.seq (sr [(mV 74 11), (mV 75 6), (oP 76 (.len (.tmp 75))), (oP 77 (.bin .lss (.tmp 74) (.tmp 76)))]
 (.cond (.tmp 77) .skip (.exit 0)))
 (.seq (.block 1 (sr [(oP 80 (.load true 2 (.tmp 2))), (mV 81 1), (mV 82 11), (oP 83 (.call 10 [(.tmp 80), (.tmp 81), (.tmp 82)])), (mV 12 83)]
 (sr [(oP 13 (.mov (.const (.c (.str [])))))]
 (.seq (sr [(oP 84 (.load true 2 (.tmp 2))), (mV 85 1), (mV 86 11), (oP 87 (.call 11 [(.tmp 84), (.tmp 85), (.tmp 86)])), (mV 88 87), ⟨(some 89), (.mov (.tmp 1)), (some (88, true))⟩, ⟨(some 90), (.mov (.tmp 11)), (some (88, true))⟩, ⟨(some 91), (.iaddr 118 (.tmp 89) (.tmp 90)), (some (88, true))⟩, ⟨(some 92), (.iaddrA 59 2 (.tmp 91) (kI 57)), (some (88, true))⟩, ⟨(some 93), (.faddr 1 (.tmp 92)), (some (88, true))⟩, ⟨(some 94), (.load false 1 (.tmp 93)), (some (88, true))⟩, ⟨(some 95), (.bin .eql (.tmp 94) (kI 1)), (some (88, true))⟩, (oP 96 (.pick (.tmp 88) (.tmp 95) kF))]
 a3_c0)
 a3_c2))))
 a3_c1))
def a3 : AFunc := ⟨2, [(.tmp 4)], (sr [(oP 2 (.box (.tmp 0))), (oP 4 (.mov kF))]
 (sr [(oP 14 (.call 6 [])), (mV 5 14)]
 (sr [(oP 16 (.load true 2 (.tmp 2))), (mV 17 1), (oP 18 (.call 7 [(.tmp 16), (.tmp 17)])), (mV 15 18), (oP 19 (.ext (.tmp 15) 0)), (oP 20 (.ext (.tmp 15) 1)), (mV 6 19), (mV 7 20)]
 (sr [(oP 22 (.load true 2 (.tmp 2))), (mV 23 1), (oP 24 (.call 8 [(.tmp 22), (.tmp 23)])), (mV 21 24), (oP 25 (.ext (.tmp 21) 0)), (oP 26 (.ext (.tmp 21) 1)), (mV 8 25), (mV 9 26)]
 (sr [(oP 27 (.load true 2 (.tmp 2))), (mV 28 1), (oP 29 (.call 9 [(.tmp 27), (.tmp 28)])), (mV 10 29)]
 (.seq (sr [(mV 30 10), (oP 31 (.bin .neq (.tmp 30) (kI 0)))]
 (.cond (.tmp 31) (sr [(mV 32 5), (mV 33 32), ⟨(some 34), (.mov (.tmp 7)), (some (33, true))⟩, ⟨(some 35), (.mov (.tmp 10)), (some (33, true))⟩, ⟨(some 36), (.bin .eql (.tmp 34) (.tmp 35)), (some (33, true))⟩, (oP 37 (.pick (.tmp 33) (.tmp 36) kF)), (mV 38 37), ⟨(some 39), (.mov (.tmp 9)), (some (38, true))⟩, ⟨(some 40), (.mov (.tmp 10)), (some (38, true))⟩, ⟨(some 41), (.bin .eql (.tmp 39) (.tmp 40)), (some (38, true))⟩, (oP 42 (.pick (.tmp 38) (.tmp 41) kF)), (mV 43 42), ⟨(some 44), (.mov (.tmp 6)), (some (43, true))⟩, ⟨(some 45), (.len (.tmp 44)), (some (43, true))⟩, ⟨(some 46), (.bin .eql (.tmp 45) (kI 0)), (some (43, true))⟩, (oP 47 (.pick (.tmp 43) (.tmp 46) kF)), (mV 48 47), ⟨(some 49), (.mov (.tmp 8)), (some (48, true))⟩, ⟨(some 50), (.len (.tmp 49)), (some (48, true))⟩, ⟨(some 51), (.bin .eql (.tmp 50) (kI 0)), (some (48, true))⟩, (oP 52 (.pick (.tmp 48) (.tmp 51) kF)), (mV 4 52)]
 .ret) .skip))
 (.seq (sr [(mV 53 7), (oP 54 (.bin .neq (.tmp 53) (kI 0))), (mV 55 54), ⟨(some 56), (.mov (.tmp 9)), (some (55, false))⟩, ⟨(some 57), (.bin .neq (.tmp 56) (kI 0)), (some (55, false))⟩, (oP 58 (.pick (.tmp 55) kT (.tmp 57))), (mV 59 58), ⟨(some 60), (.mov (.tmp 6)), (some (59, false))⟩, ⟨(some 61), (.len (.tmp 60)), (some (59, false))⟩, ⟨(some 62), (.faddr 0 (.tmp 2)), (some (59, false))⟩, ⟨(some 63), (.load false 1 (.tmp 62)), (some (59, false))⟩, ⟨(some 64), (.len (.tmp 63)), (some (59, false))⟩, ⟨(some 65), (.bin .neq (.tmp 61) (.tmp 64)), (some (59, false))⟩, (oP 66 (.pick (.tmp 59) kT (.tmp 65))), (mV 67 66), ⟨(some 68), (.mov (.tmp 8)), (some (67, false))⟩, ⟨(some 69), (.len (.tmp 68)), (some (67, false))⟩, ⟨(some 70), (.mov (.tmp 6)), (some (67, false))⟩, ⟨(some 71), (.len (.tmp 70)), (some (67, false))⟩, ⟨(some 72), (.bin .neq (.tmp 69) (.tmp 71)), (some (67, false))⟩, (oP 73 (.pick (.tmp 67) kT (.tmp 72)))]
 (.cond (.tmp 73) (sr [(oP 4 (.mov kF))]
 .ret) .skip))
 (.seq (sr [(oP 11 (.mov (kI 0)))]
 (.block 0 (.loop a3_c6)))
 (sr [(mV 129 5), (mV 4 129)]
 .ret)))))))))⟩
theorem c3 : compFunc Tryz.prog 3 = some a3 := by kernel_rfl
def Z1o (r : Bool) : AV → Heap → Nat → Prop := fun v h' n' => v = (B r) ∧ (h' = e0) ∧ n' = 0
abbrev Zbf (mL : Int) (Q : AExit → St → Prop) : AExit → St → Prop := AThen (Sv Tryz.prog (GG mL) 0 a3_c1 Q) Q
abbrev Z1p (mL : Int) (Q : AExit → St → Prop) : AExit → St → Prop := ABlock 1 (Zbf mL Q)
abbrev Z28 (l_ : (List (Ar59 TVal))) (r_ : Bool) (d_ : TDoc) (F_ : (List Int) → TT → Int → Option Bool) (o : Bool) (R_ : St → Prop) : Prop := ∀ (k_ : (List Int)) (m_ : TT) (n_ : Int) (zk : Bool) (_ : zk = true → k_ = []) (zm : Bool) (_ : zm = true → m_ = []), F_ k_ m_ n_ = some o → ∀ s, Weak 0 s ⟨(ue [(11, (I n_)), (8, (lstV zm 2 1 m_.length)), (6, (lstV zk 1 1 k_.length)), (5, (B r_)), (2, (.c (.ref 0 2 0 0))), (1, (.c (.ro false 118 (l_.map (eA59 e_TVal)))))]), (upd (upd (upd e0 0 (some (.cells 2 [(e_TDoc d_)]))) 1 (lstB zk 1 (k_.map eI))) 2 (lstB zm 1 (m_.map eStr))), 3⟩ → R_ s
abbrev Z29 (r_ : Bool) (F_ : Unit → Option Bool) (o : Bool) (R_ : St → Prop) : Prop := ∀ (_ : Unit), F_ () = some o → ∀ s, Weak 0 s ⟨(upd e0 5 (some (B r_))), e0, 0⟩ → R_ s
noncomputable def Z2u (n_ : Int) (l_ : (List (Ar59 TVal))) (r_ : Bool) (d_ : TDoc) (self : (List Int) → TT → Int → Option Bool) (K0_ : Unit → Option Bool) (k_3 : (List Int)) (m_3 : TT) (v128 : Bool) : Option Bool :=
 if v128 then
  some false
 else
  self k_3 m_3 (wi (n_ + 1))
theorem Z70 {mL : Int} {Q : AExit → St → Prop} {n_ : Int} {l_ : (List (Ar59 TVal))} {r_ : Bool} {d_ : TDoc} {self : (List Int) → TT → Int → Option Bool} {K0_ : Unit → Option Bool} {k_3 : (List Int)} {m_3 : TT} {v128 : Bool} {zk_3 : Bool} (hzk_3 : zk_3 = true → k_3 = []) {zm_3 : Bool} (hzm_3 : zm_3 = true → m_3 = []) {o : Bool} (h : Z2u n_ l_ r_ d_ self K0_ k_3 m_3 v128 = some o)
  (hself : Z28 l_ r_ d_ self o (Q .normal))
  (hK0 : Z29 r_ K0_ o (Q (.exit 0)))
  (hr : ∀ s, Ends a3.results 0 (Z1o o) .ret s → Q .ret s) :
  Sv Tryz.prog (GG mL) 0 a3_c5 (Z1p mL Q) ⟨(ue [(128, (B v128)), (11, (I n_)), (8, (lstV zm_3 2 1 m_3.length)), (6, (lstV zk_3 1 1 k_3.length)), (5, (B r_)), (2, (.c (.ref 0 2 0 0))), (1, (.c (.ro false 118 (l_.map (eA59 e_TVal)))))]), (upd (upd (upd e0 0 (some (.cells 2 [(e_TDoc d_)]))) 1 (lstB zk_3 1 (k_3.map eI))) 2 (lstB zm_3 1 (m_3.map eStr))), 3⟩ := by
 unfold Z2u at h
 refine Sv.cnd rfl h (fun h => ?_) fun h => ?_
 ·refine ssr <| un1 rfl <| dnil <| Sv.ret ?_
  exact hr _ (rt0 h rfl rfl ⟨rfl, rfl, rfl⟩)
 ·refine Sv.skip <| srg <| un1 rfl <| un1 (v := (I (wi (n_ + 1)))) rfl <| un1 rfl <| dnil ?_
  exact hself k_3 m_3 (wi (n_ + 1)) zk_3 hzk_3 zm_3 hzm_3 h _ (wcn [0, 1, 2] rfl (.cf rfl rfl (.cons rfl (.c (lsr rfl rfl)) (.cons rfl (.c (lsr rfl rfl)) (.cf rfl rfl (.cr rfl rfl rfl (.cf rfl rfl .nil)))))) (.row (by decide) rfl (fr_map fun _ => rfl) (.row (by decide) rfl (fr_map fun _ => rfl) (.box (by decide) rfl (blkAs_cells (.sm rfl (.sm rfl .nil))) .nil))))
noncomputable def Z2a (n_ : Int) (r_4 : Int) (l_ : (List (Ar59 TVal))) (r_ : Bool) (d_ : TDoc) (self : (List Int) → TT → Int → Option Bool) (K0_ : Unit → Option Bool) (k_2 : (List Int)) (m_2 : TT) (mark1 : Tx) : Option Bool :=
 (at? k_2 n_).bind fun x_ =>
 if (!decide (x_ = r_4)) then
  Z2u n_ l_ r_ d_ self K0_ k_2 m_2 true
 else
  (at? m_2 n_).bind fun x_1 =>
  Z2u n_ l_ r_ d_ self K0_ k_2 m_2 (!decide (x_1 = mark1))
theorem Z71 {mL : Int} {Q : AExit → St → Prop} {n_ : Int} {r_4 : Int} {l_ : (List (Ar59 TVal))} {r_ : Bool} {d_ : TDoc} {self : (List Int) → TT → Int → Option Bool} {K0_ : Unit → Option Bool} {k_2 : (List Int)} {m_2 : TT} {mark1 : Tx} {zk_2 : Bool} (hzk_2 : zk_2 = true → k_2 = []) {zm_2 : Bool} (hzm_2 : zm_2 = true → m_2 = []) {o : Bool} (h : Z2a n_ r_4 l_ r_ d_ self K0_ k_2 m_2 mark1 = some o)
  (hself : Z28 l_ r_ d_ self o (Q .normal))
  (hK0 : Z29 r_ K0_ o (Q (.exit 0)))
  (hr : ∀ s, Ends a3.results 0 (Z1o o) .ret s → Q .ret s) :
  Sv Tryz.prog (GG mL) 0 a3_c4 (Z1p mL Q) ⟨(ue [(13, (S mark1)), (12, (I r_4)), (11, (I n_)), (8, (lstV zm_2 2 1 m_2.length)), (6, (lstV zk_2 1 1 k_2.length)), (5, (B r_)), (2, (.c (.ref 0 2 0 0))), (1, (.c (.ro false 118 (l_.map (eA59 e_TVal)))))]), (upd (upd (upd e0 0 (some (.cells 2 [(e_TDoc d_)]))) 1 (lstB zk_2 1 (k_2.map eI))) 2 (lstB zm_2 1 (m_2.map eStr))), 3⟩ := by
 unfold Z2a at h
 refine ssr <| un1 rfl <| un1 rfl ?_
 obtain ⟨x_, hx1, h⟩ := bnd h
 refine un1 (v := (.c (.ref 1 1 n_.toNat 0))) (s_iaddrL rfl rfl hzk_2 hx1) <| un1 (v := (I x_)) (s_loadL (z := zk_2) (e := eI) rfl rfl hzk_2 hx1 rfl rfl) <| un1 rfl <| un1 (v := (B (!decide (x_ = r_4)))) rfl <| un1 rfl ?_
 refine spl h (fun h => ?_) fun h => ?_
 ·repeat (first | refine gu rfl ?_ | refine gs rfl rfl ?_)
  refine un1 (v := (B true)) rfl <| dnil ?_
  exact Sv.weak (wcn [0, 1, 2] rfl (.cf rfl rfl (.cf rfl rfl (.cons rfl (.c (lsr rfl rfl)) (.cons rfl (.c (lsr rfl rfl)) (.cf rfl rfl (.cr rfl rfl rfl (.cf rfl rfl .nil))))))) (.row (by decide) rfl (fr_map fun _ => rfl) (.row (by decide) rfl (fr_map fun _ => rfl) (.box (by decide) rfl (blkAs_cells (.sm rfl (.sm rfl .nil))) .nil)))) (Z70 hzk_2 hzm_2 h hself hK0 hr)
 ·refine gt rfl <| a1 rfl <| gt rfl <| a1 rfl ?_
  obtain ⟨x_1, hx2, h⟩ := bnd h
  refine gt rfl <| a1 (v := (.c (.ref 2 1 n_.toNat 0))) (s_iaddrL rfl rfl hzm_2 hx2) <| gt rfl <| a1 (v := (S x_1)) (s_loadL (z := zm_2) (e := eStr) rfl rfl hzm_2 hx2 rfl rfl) <| gt rfl <| a1 rfl <| gt rfl <| a1 (v := (B (!decide (x_1 = mark1)))) rfl <| un1 (v := (B (!decide (x_1 = mark1)))) rfl <| dnil ?_
  exact Sv.weak (wcn [0, 1, 2] rfl (.cf rfl rfl (.cf rfl rfl (.cons rfl (.c (lsr rfl rfl)) (.cons rfl (.c (lsr rfl rfl)) (.cf rfl rfl (.cr rfl rfl rfl (.cf rfl rfl .nil))))))) (.row (by decide) rfl (fr_map fun _ => rfl) (.row (by decide) rfl (fr_map fun _ => rfl) (.box (by decide) rfl (blkAs_cells (.sm rfl (.sm rfl .nil))) .nil)))) (Z70 hzk_2 hzm_2 h hself hK0 hr)
abbrev Zbg (mL : Int) (Q : AExit → St → Prop) : AExit → St → Prop := AThen (Sv Tryz.prog (GG mL) 0 a3_c4 (Z1p mL Q)) (Z1p mL Q)
noncomputable def Z2v (r_4 : Int) (n_ : Int) (l_ : (List (Ar59 TVal))) (r_ : Bool) (d_ : TDoc) (mark : Tx) (self : (List Int) → TT → Int → Option Bool) (K0_ : Unit → Option Bool) (k_4 : (List Int)) (m_4 : TT) (v111 : Bool) : Option Bool :=
 if v111 then
  (Z1m r_4).bind fun r_5 =>
  (cat? r_5 [46]).bind fun r_6 =>
  Z2a n_ r_4 l_ r_ d_ self K0_ k_4 m_4 r_6
 else
  Z2a n_ r_4 l_ r_ d_ self K0_ k_4 m_4 mark
theorem Z72 {mL : Int} {Q : AExit → St → Prop} {r_4 : Int} {n_ : Int} {l_ : (List (Ar59 TVal))} {r_ : Bool} {d_ : TDoc} {mark : Tx} {self : (List Int) → TT → Int → Option Bool} {K0_ : Unit → Option Bool} {k_4 : (List Int)} {m_4 : TT} {v111 : Bool} {zk_4 : Bool} (hzk_4 : zk_4 = true → k_4 = []) {zm_4 : Bool} (hzm_4 : zm_4 = true → m_4 = []) {o : Bool} (h : Z2v r_4 n_ l_ r_ d_ mark self K0_ k_4 m_4 v111 = some o)
  (hself : Z28 l_ r_ d_ self o (Q .normal))
  (hK0 : Z29 r_ K0_ o (Q (.exit 0)))
  (hr : ∀ s, Ends a3.results 0 (Z1o o) .ret s → Q .ret s) :
  Sv Tryz.prog (GG mL) 0 a3_c3 (Zbg mL Q) ⟨(ue [(111, (B v111)), (13, (S mark)), (12, (I r_4)), (11, (I n_)), (8, (lstV zm_4 2 1 m_4.length)), (6, (lstV zk_4 1 1 k_4.length)), (5, (B r_)), (2, (.c (.ref 0 2 0 0))), (1, (.c (.ro false 118 (l_.map (eA59 e_TVal)))))]), (upd (upd (upd e0 0 (some (.cells 2 [(e_TDoc d_)]))) 1 (lstB zk_4 1 (k_4.map eI))) 2 (lstB zm_4 1 (m_4.map eStr))), 3⟩ := by
 unfold Z2v at h
 refine Sv.cnd rfl h (fun h => ?_) fun h => ?_
 ·refine srg <| un1 rfl ?_
  obtain ⟨r_5, hr6, h⟩ := bnd h
  refine un <| ac_pure (Z48 hr6) rfl rfl rfl ?_
  obtain ⟨r_6, hx3, h⟩ := bnd h
  refine un1 (v := (S r_6)) (s_cat rfl rfl hx3) <| un1 rfl <| dnil ?_
  exact Sv.weak (wcn [0, 1, 2] rfl (.cf rfl rfl (.cf rfl rfl (.cf rfl rfl (.cons rfl (.c (lsr rfl rfl)) (.cons rfl (.c (lsr rfl rfl)) (.cf rfl rfl (.cr rfl rfl rfl (.cf rfl rfl .nil)))))))) (.row (by decide) rfl (fr_map fun _ => rfl) (.row (by decide) rfl (fr_map fun _ => rfl) (.box (by decide) rfl (blkAs_cells (.sm rfl (.sm rfl .nil))) .nil)))) (Z71 hzk_4 hzm_4 h hself hK0 hr)
 ·refine Sv.skip ?_
  exact Sv.weak (wcn [0, 1, 2] rfl (.cf rfl rfl (.cf rfl rfl (.cf rfl rfl (.cons rfl (.c (lsr rfl rfl)) (.cons rfl (.c (lsr rfl rfl)) (.cf rfl rfl (.cr rfl rfl rfl (.cf rfl rfl .nil)))))))) (.row (by decide) rfl (fr_map fun _ => rfl) (.row (by decide) rfl (fr_map fun _ => rfl) (.box (by decide) rfl (blkAs_cells (.sm rfl (.sm rfl .nil))) .nil)))) (Z71 hzk_4 hzm_4 h hself hK0 hr)
noncomputable def Z2b (d_ : TDoc) (l_ : (List (Ar59 TVal))) (n_ : Int) (r_4 : Int) (r_ : Bool) (self : (List Int) → TT → Int → Option Bool) (K0_ : Unit → Option Bool) (k_1 : (List Int)) (m_1 : TT) (mark : Tx) : Option Bool :=
 (Z12 d_ l_ n_).bind fun r_7 =>
 if r_7 then
  (at? l_ n_).bind fun x_2 =>
  Z2v r_4 n_ l_ r_ d_ mark self K0_ k_1 m_1 (decide (x_2.a57.N = 2))
 else
  Z2v r_4 n_ l_ r_ d_ mark self K0_ k_1 m_1 false
theorem Z73 {mL : Int} {Q : AExit → St → Prop} {d_ : TDoc} {l_ : (List (Ar59 TVal))} {n_ : Int} {r_4 : Int} {r_ : Bool} {self : (List Int) → TT → Int → Option Bool} {K0_ : Unit → Option Bool} {k_1 : (List Int)} {m_1 : TT} {mark : Tx} {zk_1 : Bool} (hzk_1 : zk_1 = true → k_1 = []) {zm_1 : Bool} (hzm_1 : zm_1 = true → m_1 = []) {o : Bool} (h : Z2b d_ l_ n_ r_4 r_ self K0_ k_1 m_1 mark = some o)
  (hself : Z28 l_ r_ d_ self o (Q .normal))
  (hK0 : Z29 r_ K0_ o (Q (.exit 0)))
  (hr : ∀ s, Ends a3.results 0 (Z1o o) .ret s → Q .ret s) :
  Sv Tryz.prog (GG mL) 0 a3_c2 (Z1p mL Q) ⟨(ue [(13, (S mark)), (12, (I r_4)), (11, (I n_)), (8, (lstV zm_1 2 1 m_1.length)), (6, (lstV zk_1 1 1 k_1.length)), (5, (B r_)), (2, (.c (.ref 0 2 0 0))), (1, (.c (.ro false 118 (l_.map (eA59 e_TVal)))))]), (upd (upd (upd e0 0 (some (.cells 2 [(e_TDoc d_)]))) 1 (lstB zk_1 1 (k_1.map eI))) 2 (lstB zm_1 1 (m_1.map eStr))), 3⟩ := by
 unfold Z2b at h
 refine Sv.seq <| ssr <| un1 (v := (.agg (e_TDoc d_))) rfl <| un1 rfl <| un1 rfl ?_
 obtain ⟨r_7, hr7, h⟩ := bnd h
 refine un <| ac_pure (Z3f hr7) rfl rfl rfl <| un1 rfl ?_
 refine spl h (fun h => ?_) fun h => ?_
 ·refine gt rfl <| a1 rfl <| gt rfl <| a1 rfl ?_
  obtain ⟨x_2, hx4, h⟩ := bnd h
  refine gt rfl <| a1 (v := (.c (.rop [cI x_2.a0.Kind, cI x_2.a0.N, cI x_2.a1.Kind, cI x_2.a1.N, cI x_2.a2.Kind, cI x_2.a2.N, cI x_2.a3.Kind, cI x_2.a3.N, cI x_2.a4.Kind, cI x_2.a4.N, cI x_2.a5.Kind, cI x_2.a5.N, cI x_2.a6.Kind, cI x_2.a6.N, cI x_2.a7.Kind, cI x_2.a7.N, cI x_2.a8.Kind, cI x_2.a8.N, cI x_2.a9.Kind, cI x_2.a9.N, cI x_2.a10.Kind, cI x_2.a10.N, cI x_2.a11.Kind, cI x_2.a11.N, cI x_2.a12.Kind, cI x_2.a12.N, cI x_2.a13.Kind, cI x_2.a13.N, cI x_2.a14.Kind, cI x_2.a14.N, cI x_2.a15.Kind, cI x_2.a15.N, cI x_2.a16.Kind, cI x_2.a16.N, cI x_2.a17.Kind, cI x_2.a17.N, cI x_2.a18.Kind, cI x_2.a18.N, cI x_2.a19.Kind, cI x_2.a19.N, cI x_2.a20.Kind, cI x_2.a20.N, cI x_2.a21.Kind, cI x_2.a21.N, cI x_2.a22.Kind, cI x_2.a22.N, cI x_2.a23.Kind, cI x_2.a23.N, cI x_2.a24.Kind, cI x_2.a24.N, cI x_2.a25.Kind, cI x_2.a25.N, cI x_2.a26.Kind, cI x_2.a26.N, cI x_2.a27.Kind, cI x_2.a27.N, cI x_2.a28.Kind, cI x_2.a28.N, cI x_2.a29.Kind, cI x_2.a29.N, cI x_2.a30.Kind, cI x_2.a30.N, cI x_2.a31.Kind, cI x_2.a31.N, cI x_2.a32.Kind, cI x_2.a32.N, cI x_2.a33.Kind, cI x_2.a33.N, cI x_2.a34.Kind, cI x_2.a34.N, cI x_2.a35.Kind, cI x_2.a35.N, cI x_2.a36.Kind, cI x_2.a36.N, cI x_2.a37.Kind, cI x_2.a37.N, cI x_2.a38.Kind, cI x_2.a38.N, cI x_2.a39.Kind, cI x_2.a39.N, cI x_2.a40.Kind, cI x_2.a40.N, cI x_2.a41.Kind, cI x_2.a41.N, cI x_2.a42.Kind, cI x_2.a42.N, cI x_2.a43.Kind, cI x_2.a43.N, cI x_2.a44.Kind, cI x_2.a44.N, cI x_2.a45.Kind, cI x_2.a45.N, cI x_2.a46.Kind, cI x_2.a46.N, cI x_2.a47.Kind, cI x_2.a47.N, cI x_2.a48.Kind, cI x_2.a48.N, cI x_2.a49.Kind, cI x_2.a49.N, cI x_2.a50.Kind, cI x_2.a50.N, cI x_2.a51.Kind, cI x_2.a51.N, cI x_2.a52.Kind, cI x_2.a52.N, cI x_2.a53.Kind, cI x_2.a53.N, cI x_2.a54.Kind, cI x_2.a54.N, cI x_2.a55.Kind, cI x_2.a55.N, cI x_2.a56.Kind, cI x_2.a56.N, cI x_2.a57.Kind, cI x_2.a57.N, cI x_2.a58.Kind, cI x_2.a58.N]))) (s_iaddr (e := (eA59 e_TVal)) (xs := l_) rfl rfl hx4) <| gt rfl <| a1 (v := (.c (.rop [cI x_2.a57.Kind, cI x_2.a57.N, cI x_2.a58.Kind, cI x_2.a58.N]))) rfl <| gt rfl <| a1 (v := (.c (.rop [cI x_2.a57.N, cI x_2.a58.Kind, cI x_2.a58.N]))) rfl <| gt rfl <| a1 (v := (I x_2.a57.N)) rfl <| gt rfl <| a1 (v := (B (decide (x_2.a57.N = 2)))) rfl <| un1 (v := (B (decide (x_2.a57.N = 2)))) rfl <| dnil ?_
  exact Sv.weak (wcn [0, 1, 2] rfl (.cf rfl rfl (.cf rfl rfl (.cf rfl rfl (.cf rfl rfl (.cons rfl (.c (lsr rfl rfl)) (.cons rfl (.c (lsr rfl rfl)) (.cf rfl rfl (.cr rfl rfl rfl (.cf rfl rfl .nil))))))))) (.row (by decide) rfl (fr_map fun _ => rfl) (.row (by decide) rfl (fr_map fun _ => rfl) (.box (by decide) rfl (blkAs_cells (.sm rfl (.sm rfl .nil))) .nil)))) (Z72 hzk_1 hzm_1 h hself hK0 hr)
 ·repeat (first | refine gu rfl ?_ | refine gs rfl rfl ?_)
  refine un1 (v := (B false)) rfl <| dnil ?_
  exact Sv.weak (wcn [0, 1, 2] rfl (.cf rfl rfl (.cf rfl rfl (.cf rfl rfl (.cf rfl rfl (.cons rfl (.c (lsr rfl rfl)) (.cons rfl (.c (lsr rfl rfl)) (.cf rfl rfl (.cr rfl rfl rfl (.cf rfl rfl .nil))))))))) (.row (by decide) rfl (fr_map fun _ => rfl) (.row (by decide) rfl (fr_map fun _ => rfl) (.box (by decide) rfl (blkAs_cells (.sm rfl (.sm rfl .nil))) .nil)))) (Z72 hzk_1 hzm_1 h hself hK0 hr)
abbrev Zbh (mL : Int) (Q : AExit → St → Prop) : AExit → St → Prop := AThen (Sv Tryz.prog (GG mL) 0 a3_c2 (Z1p mL Q)) (Z1p mL Q)
noncomputable def Z2w (r_4 : Int) (d_ : TDoc) (l_ : (List (Ar59 TVal))) (n_ : Int) (r_ : Bool) (self : (List Int) → TT → Int → Option Bool) (K0_ : Unit → Option Bool) (k_5 : (List Int)) (m_5 : TT) (v96 : Bool) : Option Bool :=
 if v96 then
  (Z2t 1 r_4).bind fun r_8 =>
  Z2b d_ l_ n_ r_4 r_ self K0_ k_5 m_5 r_8
 else
  Z2b d_ l_ n_ r_4 r_ self K0_ k_5 m_5 []
theorem Z74 {mL : Int} {Q : AExit → St → Prop} {r_4 : Int} {d_ : TDoc} {l_ : (List (Ar59 TVal))} {n_ : Int} {r_ : Bool} {self : (List Int) → TT → Int → Option Bool} {K0_ : Unit → Option Bool} {k_5 : (List Int)} {m_5 : TT} {v96 : Bool} {zk_5 : Bool} (hzk_5 : zk_5 = true → k_5 = []) {zm_5 : Bool} (hzm_5 : zm_5 = true → m_5 = []) {o : Bool} (h : Z2w r_4 d_ l_ n_ r_ self K0_ k_5 m_5 v96 = some o)
  (hself : Z28 l_ r_ d_ self o (Q .normal))
  (hK0 : Z29 r_ K0_ o (Q (.exit 0)))
  (hr : ∀ s, Ends a3.results 0 (Z1o o) .ret s → Q .ret s) :
  Sv Tryz.prog (GG mL) 0 a3_c0 (Zbh mL Q) ⟨(ue [(96, (B v96)), (13, (S [])), (12, (I r_4)), (11, (I n_)), (8, (lstV zm_5 2 1 m_5.length)), (6, (lstV zk_5 1 1 k_5.length)), (5, (B r_)), (2, (.c (.ref 0 2 0 0))), (1, (.c (.ro false 118 (l_.map (eA59 e_TVal)))))]), (upd (upd (upd e0 0 (some (.cells 2 [(e_TDoc d_)]))) 1 (lstB zk_5 1 (k_5.map eI))) 2 (lstB zm_5 1 (m_5.map eStr))), 3⟩ := by
 unfold Z2w at h
 refine Sv.cnd rfl h (fun h => ?_) fun h => ?_
 ·refine srg <| un1 rfl ?_
  obtain ⟨r_8, hr8, h⟩ := bnd h
  refine un <| ac_pure (Zbe hr8) rfl rfl rfl <| un1 rfl <| dnil ?_
  exact Sv.weak (wcn [0, 1, 2] rfl (.cf rfl rfl (.cf rfl rfl (.cf rfl rfl (.cons rfl (.c (lsr rfl rfl)) (.cons rfl (.c (lsr rfl rfl)) (.cf rfl rfl (.cr rfl rfl rfl (.cf rfl rfl .nil)))))))) (.row (by decide) rfl (fr_map fun _ => rfl) (.row (by decide) rfl (fr_map fun _ => rfl) (.box (by decide) rfl (blkAs_cells (.sm rfl (.sm rfl .nil))) .nil)))) (Z73 hzk_5 hzm_5 h hself hK0 hr)
 ·refine Sv.skip ?_
  exact Sv.weak (wcn [0, 1, 2] rfl (.cf rfl rfl (.cf rfl rfl (.cf rfl rfl (.cons rfl (.c (lsr rfl rfl)) (.cons rfl (.c (lsr rfl rfl)) (.cf rfl rfl (.cr rfl rfl rfl (.cf rfl rfl .nil)))))))) (.row (by decide) rfl (fr_map fun _ => rfl) (.row (by decide) rfl (fr_map fun _ => rfl) (.box (by decide) rfl (blkAs_cells (.sm rfl (.sm rfl .nil))) .nil)))) (Z73 hzk_5 hzm_5 h hself hK0 hr)
abbrev Z75 (l_ : (List (Ar59 TVal))) (r_ : Bool) (d_ : TDoc) (F_ : Nat → (List Int) → TT → Int → Option Bool) (o : Bool) : Nat → St → Prop := fun k s => ∃ (k_ : (List Int)), ∃ (m_ : TT), ∃ (n_ : Int), ∃ (zk : Bool), (zk = true → k_ = []) ∧ ∃ (zm : Bool), (zm = true → m_ = []) ∧ F_ k k_ m_ n_ = some o ∧ s = ⟨(ue [(11, (I n_)), (8, (lstV zm 2 1 m_.length)), (6, (lstV zk 1 1 k_.length)), (5, (B r_)), (2, (.c (.ref 0 2 0 0))), (1, (.c (.ro false 118 (l_.map (eA59 e_TVal)))))]), (upd (upd (upd e0 0 (some (.cells 2 [(e_TDoc d_)]))) 1 (lstB zk 1 (k_.map eI))) 2 (lstB zm 1 (m_.map eStr))), 3⟩
noncomputable def Zj (d_ : TDoc) (l_ : (List (Ar59 TVal))) (r_ : Bool) (K0_ : Unit → Option Bool) : Nat → (List Int) → TT → Int → Option Bool
 | 0, _, _, _ => none
 | k + 1, k_, m_, n_ =>
  if decide (n_ < (k_.length : Int)) then
   (Z2s d_ l_ n_).bind fun r_4 =>
   (Z12 d_ l_ n_).bind fun r_9 =>
   if r_9 then
    (at? l_ n_).bind fun x_3 =>
    Z2w r_4 d_ l_ n_ r_ (Zj d_ l_ r_ K0_ k) K0_ k_ m_ (decide (x_3.a57.N = 1))
   else
    Z2w r_4 d_ l_ n_ r_ (Zj d_ l_ r_ K0_ k) K0_ k_ m_ false
  else
   K0_ ()
theorem Zbi {mL : Int} {Q : AExit → St → Prop} {d_ : TDoc} {l_ : (List (Ar59 TVal))} {r_ : Bool} {K0_ : Unit → Option Bool} {k : Nat} {k_ : (List Int)} {m_ : TT} {n_ : Int} {zk : Bool} (hzk : zk = true → k_ = []) {zm : Bool} (hzm : zm = true → m_ = []) {o : Bool} (h : Zj d_ l_ r_ K0_ k k_ m_ n_ = some o)
  (hK0 : Z29 r_ K0_ o (Q (.exit 0)))
  (hr : ∀ s, Ends a3.results 0 (Z1o o) .ret s → Q .ret s) :
  Sv Tryz.prog (GG mL) 0 (.loop a3_c6) Q ⟨(ue [(11, (I n_)), (8, (lstV zm 2 1 m_.length)), (6, (lstV zk 1 1 k_.length)), (5, (B r_)), (2, (.c (.ref 0 2 0 0))), (1, (.c (.ro false 118 (l_.map (eA59 e_TVal)))))]), (upd (upd (upd e0 0 (some (.cells 2 [(e_TDoc d_)]))) 1 (lstB zk 1 (k_.map eI))) 2 (lstB zm 1 (m_.map eStr))), 3⟩ := by
 refine Sv.loop (I := Z75 l_ r_ d_ (Zj d_ l_ r_ K0_) o) (fun k s hI => ?_) ⟨k_, m_, n_, zk, hzk, zm, hzm, h, rfl⟩
 clear h
 clear hzm hzk zm zk n_ m_ k_
 obtain ⟨k_, m_, n_, zk, hzk, zm, hzm, h, rfl⟩ := hI
 cases k with
 | zero => cases h
 | succ k =>
 rw [Zj] at h
 have hself : Z28 l_ r_ d_ (Zj d_ l_ r_ K0_ k) o (rnd 0 (Z75 l_ r_ d_ (Zj d_ l_ r_ K0_) o) k Q) := fun k_ m_ n_ zk hzk zm hzm h s hw => ⟨_, k, hw, Nat.lt_succ_self k, k_, m_, n_, zk, hzk, zm, hzm, h, rfl⟩
 refine Sv.seq <| ssr <| un1 rfl <| un1 rfl <| un1 (v := (I (k_.length : Int))) (s_lenL rfl (len_nil_of hzk)) <| un1 (v := (B (decide (n_ < (k_.length : Int))))) rfl <| dnil ?_
 refine Sv.cnd rfl h (fun h => ?_) fun h => ?_
 ·refine Sv.skip <| Sv.seq <| Sv.block <| ssr <| un1 (v := (.agg (e_TDoc d_))) rfl <| un1 rfl <| un1 rfl ?_
  obtain ⟨r_4, hr5, h⟩ := bnd h
  refine un <| ac_pure (Zb5 hr5) rfl rfl rfl <| un1 rfl <| dnil <| ssr <| un1 rfl <| dnil <| Sv.seq <| ssr <| un1 (v := (.agg (e_TDoc d_))) rfl <| un1 rfl <| un1 rfl ?_
  obtain ⟨r_9, hr9, h⟩ := bnd h
  refine un <| ac_pure (Z3f hr9) rfl rfl rfl <| un1 rfl ?_
  refine spl h (fun h => ?_) fun h => ?_
  ·refine gt rfl <| a1 rfl <| gt rfl <| a1 rfl ?_
   obtain ⟨x_3, hx5, h⟩ := bnd h
   refine gt rfl <| a1 (v := (.c (.rop [cI x_3.a0.Kind, cI x_3.a0.N, cI x_3.a1.Kind, cI x_3.a1.N, cI x_3.a2.Kind, cI x_3.a2.N, cI x_3.a3.Kind, cI x_3.a3.N, cI x_3.a4.Kind, cI x_3.a4.N, cI x_3.a5.Kind, cI x_3.a5.N, cI x_3.a6.Kind, cI x_3.a6.N, cI x_3.a7.Kind, cI x_3.a7.N, cI x_3.a8.Kind, cI x_3.a8.N, cI x_3.a9.Kind, cI x_3.a9.N, cI x_3.a10.Kind, cI x_3.a10.N, cI x_3.a11.Kind, cI x_3.a11.N, cI x_3.a12.Kind, cI x_3.a12.N, cI x_3.a13.Kind, cI x_3.a13.N, cI x_3.a14.Kind, cI x_3.a14.N, cI x_3.a15.Kind, cI x_3.a15.N, cI x_3.a16.Kind, cI x_3.a16.N, cI x_3.a17.Kind, cI x_3.a17.N, cI x_3.a18.Kind, cI x_3.a18.N, cI x_3.a19.Kind, cI x_3.a19.N, cI x_3.a20.Kind, cI x_3.a20.N, cI x_3.a21.Kind, cI x_3.a21.N, cI x_3.a22.Kind, cI x_3.a22.N, cI x_3.a23.Kind, cI x_3.a23.N, cI x_3.a24.Kind, cI x_3.a24.N, cI x_3.a25.Kind, cI x_3.a25.N, cI x_3.a26.Kind, cI x_3.a26.N, cI x_3.a27.Kind, cI x_3.a27.N, cI x_3.a28.Kind, cI x_3.a28.N, cI x_3.a29.Kind, cI x_3.a29.N, cI x_3.a30.Kind, cI x_3.a30.N, cI x_3.a31.Kind, cI x_3.a31.N, cI x_3.a32.Kind, cI x_3.a32.N, cI x_3.a33.Kind, cI x_3.a33.N, cI x_3.a34.Kind, cI x_3.a34.N, cI x_3.a35.Kind, cI x_3.a35.N, cI x_3.a36.Kind, cI x_3.a36.N, cI x_3.a37.Kind, cI x_3.a37.N, cI x_3.a38.Kind, cI x_3.a38.N, cI x_3.a39.Kind, cI x_3.a39.N, cI x_3.a40.Kind, cI x_3.a40.N, cI x_3.a41.Kind, cI x_3.a41.N, cI x_3.a42.Kind, cI x_3.a42.N, cI x_3.a43.Kind, cI x_3.a43.N, cI x_3.a44.Kind, cI x_3.a44.N, cI x_3.a45.Kind, cI x_3.a45.N, cI x_3.a46.Kind, cI x_3.a46.N, cI x_3.a47.Kind, cI x_3.a47.N, cI x_3.a48.Kind, cI x_3.a48.N, cI x_3.a49.Kind, cI x_3.a49.N, cI x_3.a50.Kind, cI x_3.a50.N, cI x_3.a51.Kind, cI x_3.a51.N, cI x_3.a52.Kind, cI x_3.a52.N, cI x_3.a53.Kind, cI x_3.a53.N, cI x_3.a54.Kind, cI x_3.a54.N, cI x_3.a55.Kind, cI x_3.a55.N, cI x_3.a56.Kind, cI x_3.a56.N, cI x_3.a57.Kind, cI x_3.a57.N, cI x_3.a58.Kind, cI x_3.a58.N]))) (s_iaddr (e := (eA59 e_TVal)) (xs := l_) rfl rfl hx5) <| gt rfl <| a1 (v := (.c (.rop [cI x_3.a57.Kind, cI x_3.a57.N, cI x_3.a58.Kind, cI x_3.a58.N]))) rfl <| gt rfl <| a1 (v := (.c (.rop [cI x_3.a57.N, cI x_3.a58.Kind, cI x_3.a58.N]))) rfl <| gt rfl <| a1 (v := (I x_3.a57.N)) rfl <| gt rfl <| a1 (v := (B (decide (x_3.a57.N = 1)))) rfl <| un1 (v := (B (decide (x_3.a57.N = 1)))) rfl <| dnil ?_
   exact Sv.weak (wcn [0, 1, 2] rfl (.cf rfl rfl (.cf rfl rfl (.cf rfl rfl (.cf rfl rfl (.cons rfl (.c (lsr rfl rfl)) (.cons rfl (.c (lsr rfl rfl)) (.cf rfl rfl (.cr rfl rfl rfl (.cf rfl rfl .nil))))))))) (.row (by decide) rfl (fr_map fun _ => rfl) (.row (by decide) rfl (fr_map fun _ => rfl) (.box (by decide) rfl (blkAs_cells (.sm rfl (.sm rfl .nil))) .nil)))) (Z74 hzk hzm h hself hK0 hr)
  ·repeat (first | refine gu rfl ?_ | refine gs rfl rfl ?_)
   refine un1 (v := (B false)) rfl <| dnil ?_
   exact Sv.weak (wcn [0, 1, 2] rfl (.cf rfl rfl (.cf rfl rfl (.cf rfl rfl (.cf rfl rfl (.cons rfl (.c (lsr rfl rfl)) (.cons rfl (.c (lsr rfl rfl)) (.cf rfl rfl (.cr rfl rfl rfl (.cf rfl rfl .nil))))))))) (.row (by decide) rfl (fr_map fun _ => rfl) (.row (by decide) rfl (fr_map fun _ => rfl) (.box (by decide) rfl (blkAs_cells (.sm rfl (.sm rfl .nil))) .nil)))) (Z74 hzk hzm h hself hK0 hr)
 ·refine Sv.exit ?_
  exact hK0 () h _ (wcn [] rfl (.cf rfl rfl .nil) .nil)
/-- clerestory/clerestorylaw2.CountNumbers -/
noncomputable def Z3q (d_ : TDoc) (l_ : (List (Ar59 TVal))) : Option Bool :=
 (Z2c).bind fun r_ =>
 (Z3a d_ l_).bind fun r_1 =>
 (Z3d d_ l_).bind fun r_2 =>
 (Z1g d_ l_).bind fun r_3 =>
 if (!decide (r_3 = 0)) then
  some ((((r_ && (decide (r_1.2 = r_3))) && (decide (r_2.2 = r_3))) && (decide ((r_1.1.length : Int) = 0))) && (decide ((r_2.1.length : Int) = 0)))
 else
  if ((((!decide (r_1.2 = 0)) || (!decide (r_2.2 = 0))) || (!decide ((r_1.1.length : Int) = (d_.Nodes.length : Int)))) || (!decide ((r_2.1.length : Int) = (r_1.1.length : Int)))) then
   some false
  else
   lim fun kk => Zj d_ l_ r_ (fun (_ : Unit) => 
     some r_) kk r_1.1 r_2.1 0
theorem Zbj {mL : Int} {d_ : TDoc} {l_ : (List (Ar59 TVal))} {r : Bool} (h : Z3q d_ l_ = some r) : CPure Tryz.prog (GG mL) 3 [(.agg (e_TDoc d_)), (.c (.ro false 118 (l_.map (eA59 e_TVal))))] (B r) := by
 refine acalls_of_sv hmix c3 (R := Z1o r) ?_
 unfold Z3q at h
 refine ssr <| un <| a2v (v := (.c (.ref 0 2 0 0))) (h' := upd _ 0 (some (.cells 2 [(e_TDoc d_)]))) (n' := 1) rfl rfl hcs <| un1 rfl <| dnil <| ssr ?_
 obtain ⟨r_, hr1, h⟩ := bnd h
 refine un <| ac_pure (Z7s hr1) rfl rfl rfl <| un1 rfl <| dnil <| ssr <| un1 (v := (.agg (e_TDoc d_))) rfl <| un1 rfl ?_
 obtain ⟨r_1, hr2, h⟩ := bnd h
 refine un <| ac_gen (bs := []) («as» := [(.agg (e_TDoc d_)), (.c (.ro false 118 (l_.map (eA59 e_TVal))))]) (h2 := _) (h1 := e0) (Zah hr2) rfl (.cons (avAs_free rfl) (.cons (avAs_free rfl) .nil)) (hsub_refl _) (.nil _) (fun _ => rfl) (by decide) (by decide) (.cons (avAs_free rfl) (.cons (avAs_free rfl) .nil)) .nil ?_
 rintro _ _ _ hn ⟨z_, hz_, rfl, rfl, rfl⟩
 refine ⟨.inl rfl, (upd (rem [] _) 1 (lstB z_ 1 (r_1.1.map eI))), fun hbd => (m3_cons (m3_row rfl (fr_map fun _ => rfl)) (m3_rem (in_nil _) (.cons (by decide) .nil) hbd)), (.tup [(lstV z_ 1 1 r_1.1.length), (I r_1.2)]), 2, (by cases z_ <;> rfl), rfl, ?_⟩
 refine un1 rfl <| un1 (v := (lstV z_ 1 1 r_1.1.length)) rfl <| un1 (v := (I r_1.2)) rfl <| un1 rfl <| un1 rfl <| dnil <| ssr <| un1 (v := (.agg (e_TDoc d_))) rfl <| un1 rfl ?_
 obtain ⟨r_2, hr3, h⟩ := bnd h
 refine un <| ac_gen (bs := []) («as» := [(.agg (e_TDoc d_)), (.c (.ro false 118 (l_.map (eA59 e_TVal))))]) (h2 := _) (h1 := e0) (Zaj hr3) rfl (.cons (avAs_free rfl) (.cons (avAs_free rfl) .nil)) (hsub_refl _) (.nil _) (fun _ => rfl) (by decide) (by decide) (.cons (avAs_free rfl) (.cons (avAs_free rfl) .nil)) .nil ?_
 rintro _ _ _ hn ⟨z_1, hz_1, rfl, rfl, rfl⟩
 refine ⟨.inl rfl, (upd (rem [] _) 2 (lstB z_1 1 (r_2.1.map eStr))), fun hbd => (m3_cons (m3_row rfl (fr_map fun _ => rfl)) (m3_rem (in_nil _) (.cons (by decide) .nil) hbd)), (.tup [(lstV z_1 2 1 r_2.1.length), (I r_2.2)]), 3, (by cases z_1 <;> rfl), rfl, ?_⟩
 refine un1 rfl <| un1 (v := (lstV z_1 2 1 r_2.1.length)) rfl <| un1 (v := (I r_2.2)) rfl <| un1 rfl <| un1 rfl <| dnil <| ssr <| un1 (v := (.agg (e_TDoc d_))) rfl <| un1 rfl ?_
 obtain ⟨r_3, hr4, h⟩ := bnd h
 refine un <| ac_pure (Z44 hr4) rfl rfl rfl <| un1 rfl <| dnil <| Sv.seq <| ssr <| un1 rfl <| un1 (v := (B (!decide (r_3 = 0)))) rfl <| dnil ?_
 refine Sv.cnd rfl h (fun h => ?_) fun h => ?_
 ·refine ssr <| un1 rfl <| un1 rfl ?_
  refine gjoin 4 (d := 37) (v := (B (r_ && (decide (r_1.2 = r_3))))) (fun X hX => ?_) ?_
  ·refine split2 (fun hc2 => ?_) (fun hc2 => ?_)
   ·refine gt rfl <| a1 rfl <| gt rfl <| a1 rfl <| gt rfl <| a1 (v := (B (decide (r_1.2 = r_3)))) rfl <| un1 (v := (B (decide (r_1.2 = r_3)))) rfl <| dnil ?_
    exact hX _ (.putEq (by rw [hc2]; rfl) (.skp (.skp (.skp (.putEq (by rw [hc2]) (.refl _)) rfl) rfl) rfl))
   ·refine gs rfl rfl <| gs rfl rfl <| gs rfl rfl <| un1 (v := (B false)) rfl <| dnil ?_
    exact hX _ (.putEq (by rw [hc2]; rfl) (.skp (.skp (.skp (.putEq (by rw [hc2]) (.refl _)) rfl) rfl) rfl))
  refine un1 rfl ?_
  refine gjoin 4 (d := 42) (v := (B ((r_ && (decide (r_1.2 = r_3))) && (decide (r_2.2 = r_3))))) (fun X hX => ?_) ?_
  ·refine split2 (fun hc3 => ?_) (fun hc3 => ?_)
   ·refine gt rfl <| a1 rfl <| gt rfl <| a1 rfl <| gt rfl <| a1 (v := (B (decide (r_2.2 = r_3)))) rfl <| un1 (v := (B (decide (r_2.2 = r_3)))) rfl <| dnil ?_
    exact hX _ (.putEq (by rw [hc3]; rfl) (.skp (.skp (.skp (.putEq (by rw [hc3]) (.refl _)) rfl) rfl) rfl))
   ·refine gs rfl rfl <| gs rfl rfl <| gs rfl rfl <| un1 (v := (B false)) rfl <| dnil ?_
    exact hX _ (.putEq (by rw [hc3]; rfl) (.skp (.skp (.skp (.putEq (by rw [hc3]) (.refl _)) rfl) rfl) rfl))
  refine un1 rfl ?_
  refine gjoin 4 (d := 47) (v := (B (((r_ && (decide (r_1.2 = r_3))) && (decide (r_2.2 = r_3))) && (decide ((r_1.1.length : Int) = 0))))) (fun X hX => ?_) ?_
  ·refine split2 (fun hc4 => ?_) (fun hc4 => ?_)
   ·refine gt rfl <| a1 rfl <| gt rfl <| a1 (v := (I (r_1.1.length : Int))) (s_lenL rfl (len_nil_of hz_)) <| gt rfl <| a1 (v := (B (decide ((r_1.1.length : Int) = 0)))) rfl <| un1 (v := (B (decide ((r_1.1.length : Int) = 0)))) rfl <| dnil ?_
    exact hX _ (.putEq (by rw [hc4]; rfl) (.skp (.skp (.skp (.putEq (by rw [hc4]) (.refl _)) rfl) rfl) rfl))
   ·refine gs rfl rfl <| gs rfl rfl <| gs rfl rfl <| un1 (v := (B false)) rfl <| dnil ?_
    exact hX _ (.putEq (by rw [hc4]; rfl) (.skp (.skp (.skp (.putEq (by rw [hc4]) (.refl _)) rfl) rfl) rfl))
  refine un1 rfl ?_
  refine gjoin 4 (d := 52) (v := (B ((((r_ && (decide (r_1.2 = r_3))) && (decide (r_2.2 = r_3))) && (decide ((r_1.1.length : Int) = 0))) && (decide ((r_2.1.length : Int) = 0))))) (fun X hX => ?_) ?_
  ·refine split2 (fun hc5 => ?_) (fun hc5 => ?_)
   ·refine gt rfl <| a1 rfl <| gt rfl <| a1 (v := (I (r_2.1.length : Int))) (s_lenL rfl (len_nil_of hz_1)) <| gt rfl <| a1 (v := (B (decide ((r_2.1.length : Int) = 0)))) rfl <| un1 (v := (B (decide ((r_2.1.length : Int) = 0)))) rfl <| dnil ?_
    exact hX _ (.putEq (by rw [hc5]; rfl) (.skp (.skp (.skp (.putEq (by rw [hc5]) (.refl _)) rfl) rfl) rfl))
   ·refine gs rfl rfl <| gs rfl rfl <| gs rfl rfl <| un1 (v := (B false)) rfl <| dnil ?_
    exact hX _ (.putEq (by rw [hc5]; rfl) (.skp (.skp (.skp (.putEq (by rw [hc5]) (.refl _)) rfl) rfl) rfl))
  refine un1 rfl <| dnil <| Sv.ret ?_
  exact rt0 h rfl rfl ⟨rfl, rfl, rfl⟩
 ·refine Sv.skip <| Sv.seq <| ssr <| un1 rfl <| un1 (v := (B (!decide (r_1.2 = 0)))) rfl <| un1 rfl ?_
  refine gjoin 3 (d := 58) (v := (B ((!decide (r_1.2 = 0)) || (!decide (r_2.2 = 0))))) (fun X hX => ?_) ?_
  ·refine split2 (fun hc6 => ?_) (fun hc6 => ?_)
   ·refine gs rfl rfl <| gs rfl rfl <| un1 (v := (B true)) rfl <| dnil ?_
    exact hX _ (.putEq (by rw [hc6]; rfl) (.skp (.skp (.putEq (by rw [hc6]) (.refl _)) rfl) rfl))
   ·refine gt rfl <| a1 rfl <| gt rfl <| a1 (v := (B (!decide (r_2.2 = 0)))) rfl <| un1 (v := (B (!decide (r_2.2 = 0)))) rfl <| dnil ?_
    exact hX _ (.putEq (by rw [hc6]; rfl) (.skp (.skp (.putEq (by rw [hc6]) (.refl _)) rfl) rfl))
  refine un1 rfl ?_
  refine gjoin 7 (d := 66) (v := (B (((!decide (r_1.2 = 0)) || (!decide (r_2.2 = 0))) || (!decide ((r_1.1.length : Int) = (d_.Nodes.length : Int)))))) (fun X hX => ?_) ?_
  ·refine split2 (fun hc7 => ?_) (fun hc7 => ?_)
   ·repeat (first | refine gu rfl ?_ | refine gs rfl rfl ?_)
    refine un1 (v := (B true)) rfl <| dnil ?_
    exact hX _ (.putEq (by rw [hc7]; rfl) (by repeat (first | exact .putEq (by rw [hc7]) (.refl _) | refine .skp ?_ rfl)))
   ·refine gt rfl <| a1 rfl <| gt rfl <| a1 (v := (I (r_1.1.length : Int))) (s_lenL rfl (len_nil_of hz_)) <| gt rfl <| a1 (v := (.c (.ref 0 2 0 0))) rfl <| gt rfl <| a1 (v := (.c (.ro false 6 (d_.Nodes.map e_TNode)))) rfl <| gt rfl <| a1 (v := (I (d_.Nodes.length : Int))) (s_len (e := e_TNode) (xs := d_.Nodes) rfl) <| gt rfl <| a1 (v := (B (!decide ((r_1.1.length : Int) = (d_.Nodes.length : Int))))) rfl <| un1 (v := (B (!decide ((r_1.1.length : Int) = (d_.Nodes.length : Int))))) rfl <| dnil ?_
    exact hX _ (.putEq (by rw [hc7]; rfl) (by repeat (first | exact .putEq (by rw [hc7]) (.refl _) | refine .skp ?_ rfl)))
  refine un1 rfl ?_
  refine gjoin 6 (d := 73) (v := (B ((((!decide (r_1.2 = 0)) || (!decide (r_2.2 = 0))) || (!decide ((r_1.1.length : Int) = (d_.Nodes.length : Int)))) || (!decide ((r_2.1.length : Int) = (r_1.1.length : Int)))))) (fun X hX => ?_) ?_
  ·refine split2 (fun hc8 => ?_) (fun hc8 => ?_)
   ·repeat (first | refine gu rfl ?_ | refine gs rfl rfl ?_)
    refine un1 (v := (B true)) rfl <| dnil ?_
    exact hX _ (.putEq (by rw [hc8]; rfl) (by repeat (first | exact .putEq (by rw [hc8]) (.refl _) | refine .skp ?_ rfl)))
   ·refine gt rfl <| a1 rfl <| gt rfl <| a1 (v := (I (r_2.1.length : Int))) (s_lenL rfl (len_nil_of hz_1)) <| gt rfl <| a1 rfl <| gt rfl <| a1 (v := (I (r_1.1.length : Int))) (s_lenL rfl (len_nil_of hz_)) <| gt rfl <| a1 (v := (B (!decide ((r_2.1.length : Int) = (r_1.1.length : Int))))) rfl <| un1 (v := (B (!decide ((r_2.1.length : Int) = (r_1.1.length : Int))))) rfl <| dnil ?_
    exact hX _ (.putEq (by rw [hc8]; rfl) (by repeat (first | exact .putEq (by rw [hc8]) (.refl _) | refine .skp ?_ rfl)))
  refine dnil ?_
  refine Sv.cnd rfl h (fun h => ?_) fun h => ?_
  ·refine ssr <| un1 rfl <| dnil <| Sv.ret ?_
   exact rt0 h rfl rfl ⟨rfl, rfl, rfl⟩
  ·refine Sv.skip <| Sv.seq <| ssr <| un1 rfl <| dnil <| Sv.block ?_
   obtain ⟨kk, h⟩ := lim_some h
   refine Sv.weak (wcn [0, 1, 2] rfl (.cf rfl rfl (.cons rfl (.c (lsr rfl rfl)) (.cons rfl (.c (lsr rfl rfl)) (.cf rfl rfl (.cr rfl rfl rfl (.cf rfl rfl .nil)))))) (.row (by decide) rfl (fr_map fun _ => rfl) (.row (by decide) rfl (fr_map fun _ => rfl) (.box (by decide) rfl (blkAs_cells (.sm rfl (.sm rfl .nil))) .nil)))) (Zbi hz_ hz_1 h ?_ (fun s hs => hs))
   ·intro _ h _ hw1
    refine Sv.weak hw1 <| ssr <| un1 rfl <| un1 rfl <| dnil <| Sv.ret ?_
    exact rt0 h rfl rfl ⟨rfl, rfl, rfl⟩
end Go.Proofs.YtaejmblphhjccaaGreatDoorBv
