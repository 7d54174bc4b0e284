/- Printed by a program of mine (bgen.py): plain functions, and the walks that show that the code comes to what they answer. -/
import Derived.Test.YtngonchkhmjenaaGreatDoorGTrailSays1
namespace Go.Proofs.YtngonchkhmjenaaGreatDoorBv
open Go
set_option linter.unusedVariables false
set_option linter.unusedSimpArgs false
set_option maxRecDepth 100000
def a9_c1:ACode:=(.cond (.tmp 69) (.region [(oP 70 (.bslice 1 [(.str [])] 0 [])),(oP 71 (.faddr 3 (.tmp 6))),(oP 72 (.load false 1 (.tmp 71))),(oP 73 (.faddr 3 (.tmp 6))),(oP 74 (.load false 1 (.tmp 73))),(oP 75 (.len (.tmp 74))),(oP 76 (.bin .sub (.tmp 75) (kI 1))),(oP 77 (.slSl 1 (.tmp 72) none (some (.tmp 76)) none)),(oP 78 (.app 1 16 (.tmp 70) (.tmp 77))),(mV 79 13),(oP 80 (.app 1 16 (.tmp 78) (.tmp 79))),(mV 13 80)]) .skip)
def a9_c3:ACode:=(sr [(mV 81 11),(oP 82 (.bin .neq (.tmp 81) (.const (.c (.str [])))))]
 (.cond (.tmp 82) (.region [(mV 83 13),(oP 84 (.call 29 [(.tmp 83)])),(oP 85 (.faddr 3 (.tmp 8))),(oN (.store 1 (.tmp 85) (.tmp 84)))]) .skip))
def a9_c0:ACode:=(sr [(mV 52 11),(oP 53 (.call 28 [(.tmp 52),(.const (.c (.str [47])))])),(oP 54 (.call 27 [(.tmp 53)])),(mV 51 54),(oP 55 (.ext (.tmp 51) 0)),(oP 56 (.ext (.tmp 51) 1)),(mV 13 55),(mV 14 56)]
 (.seq (sr [(mV 57 12),(oP 58 (.un .not (.tmp 57))),(mV 59 58),⟨(some 60),(.mov (.tmp 14)),(some (59,false))⟩,⟨(some 61),(.un .not (.tmp 60)),(some (59,false))⟩,(oP 62 (.pick (.tmp 59) kT (.tmp 61)))]
 (.cond (.tmp 62) (sr [(oP 4 (.mov (.const (.c (.str []))))),(oP 5 (.mov (kI 3)))]
 .ret) .skip))
 (.seq (sr [(mV 63 11),(oP 64 (.bin .neq (.tmp 63) (.const (.c (.str []))))),(mV 65 64),⟨(some 66),(.mov (.tmp 11)),(some (65,true))⟩,⟨(some 67),(.call 25 [(.tmp 66),(.const (.c (.str [47])))]),(some (65,true))⟩,⟨(some 68),(.un .not (.tmp 67)),(some (65,true))⟩,(oP 69 (.pick (.tmp 65) (.tmp 68) kF))]
 a9_c1)
 a9_c3)))
def a9_c2:ACode:=(.seq (sr [(mV 105 7),(oP 106 (.bin .neq (.tmp 105) (kI 0)))]
 (.cond (.tmp 106) (sr [(mV 107 7),(oP 4 (.mov (.const (.c (.str []))))),(mV 5 107)]
 .ret) .skip))
 (sr [(oP 108 (.load true 8 (.tmp 8))),(oP 109 (.call 30 [(.tmp 108)])),(mV 15 109)]
 (.seq (sr [(mV 110 15),(oP 111 (.lenS (.tmp 110))),(oP 112 (.bin .gtr (.tmp 111) (kI 500)))]
 (.cond (.tmp 112) (sr [(oP 4 (.mov (.const (.c (.str []))))),(oP 5 (.mov (kI 2)))]
 .ret) .skip))
 (sr [(mV 113 15),(mV 4 113),(oP 5 (.mov (kI 0)))]
 .ret))))
def a9:AFunc:=⟨2,[(.tmp 4),(.tmp 5)],(sr [(oP 4 (.mov (.const (.c (.str []))))),(oP 5 (.mov (kI 0)))]
 (sr [(mV 17 0),(oP 18 (.call 23 [(.tmp 17)])),(mV 16 18),(oP 19 (.ext (.tmp 16) 0)),(oP 20 (.ext (.tmp 16) 1)),(oP 6 (.box (.const (.agg [(.str []),(.str []),(.val (.int .i64 0)),(.ro true 1 []),(.str []),(.val (.bool false)),(.str []),(.val (.bool false))])))),(oN (.store 8 (.tmp 6) (.tmp 19))),(mV 7 20)]
 (.seq (sr [(mV 21 7),(oP 22 (.bin .neq (.tmp 21) (kI 0)))]
 (.cond (.tmp 22) (sr [(mV 23 7),(oP 4 (.mov (.const (.c (.str []))))),(mV 5 23)]
 .ret) .skip))
 (.seq (sr [(mV 24 1),(oP 25 (.lenS (.tmp 24))),(oP 26 (.bin .gtr (.tmp 25) (kI 500)))]
 (.cond (.tmp 26) (sr [(oP 4 (.mov (.const (.c (.str []))))),(oP 5 (.mov (kI 2)))]
 .ret) .skip))
 (sr [(oP 27 (.load true 8 (.tmp 6))),(oP 8 (.box (.const (.agg [(.str []),(.str []),(.val (.int .i64 0)),(.ro true 1 []),(.str []),(.val (.bool false)),(.str []),(.val (.bool false))])))),(oN (.store 8 (.tmp 8) (.tmp 27)))]
 (sr [(mV 29 1),(oP 30 (.call 24 [(.tmp 29)])),(mV 28 30),(oP 31 (.ext (.tmp 28) 0)),(oP 32 (.ext (.tmp 28) 1)),(mV 9 31),(mV 10 32)]
 (.seq (.block 0 (sr [(mV 87 10),(mV 86 87)]
 (.cond (.tmp 86) (.region [(mV 89 1),(oP 90 (.call 23 [(.tmp 89)])),(mV 88 90),(oP 91 (.ext (.tmp 88) 0)),(oP 92 (.ext (.tmp 88) 1)),(oN (.store 8 (.tmp 8) (.tmp 91))),(mV 7 92)]) (sr [(mV 94 1),(oP 95 (.call 25 [(.tmp 94),(.const (.c (.str [47,47])))])),(mV 93 95)]
 (.cond (.tmp 93) (.region [(oP 97 (.faddr 0 (.tmp 6))),(oP 98 (.load false 1 (.tmp 97))),(oP 99 (.bin .add (.tmp 98) (.const (.c (.str [58]))))),(mV 100 1),(oP 101 (.bin .add (.tmp 99) (.tmp 100))),(oP 102 (.call 23 [(.tmp 101)])),(mV 96 102),(oP 103 (.ext (.tmp 96) 0)),(oP 104 (.ext (.tmp 96) 1)),(oN (.store 8 (.tmp 8) (.tmp 103))),(mV 7 104)]) (sr [(mV 34 1),(oP 35 (.call 26 [(.tmp 8),(.tmp 34)])),(mV 33 35),(oP 36 (.ext (.tmp 33) 0)),(oP 37 (.ext (.tmp 33) 1)),(mV 11 36),(mV 12 37)]
 (.seq (sr [(mV 38 11),(oP 39 (.bin .eql (.tmp 38) (.const (.c (.str []))))),(mV 40 39),⟨(some 41),(.faddr 5 (.tmp 8)),(some (40,true))⟩,⟨(some 42),(.load false 1 (.tmp 41)),(some (40,true))⟩,⟨(some 43),(.un .not (.tmp 42)),(some (40,true))⟩,(oP 44 (.pick (.tmp 40) (.tmp 43) kF))]
 (.cond (.tmp 44) (.drawn (.alt [((oP 45 (.faddr 4 (.tmp 6))),(0,0)),((oP 46 (.load false 1 (.tmp 45))),(0,1)),((oP 47 (.faddr 5 (.tmp 6))),(0,2)),((oP 49 (.faddr 4 (.tmp 8))),(0,4))] (.fin [((oP 48 (.load false 1 (.tmp 47))),(1,3)),((oN (.store 1 (.tmp 49) (.tmp 46))),(2,5)),((oP 50 (.faddr 5 (.tmp 8))),(0,6)),((oN (.store 1 (.tmp 50) (.tmp 48))),(2,7))]) (.fin [((oN (.store 1 (.tmp 49) (.tmp 46))),(2,5)),((oP 48 (.load false 1 (.tmp 47))),(1,3)),((oP 50 (.faddr 5 (.tmp 8))),(0,6)),((oN (.store 1 (.tmp 50) (.tmp 48))),(2,7))]))) .skip))
 a9_c0)))))))
 a9_c2)))))))⟩
theorem c9:compFunc Tryz.prog 9=some a9:=by kernel_rfl
def Z5y (r:(Tx×Int)):AV→Heap→Nat→Prop:=fun v h' n' => v=(.tup [(S r.1),(I r.2)])∧(h' = e0)∧n' = 0
noncomputable def Z18 (e_:Int) (u0:Tx) (u1:Tx) (u2:Int) (u3:TT) (u4:Tx) (u5:Bool) (u6:Tx) (u7:Bool):Option (Tx×Int) :=
 if (!decide (e_=0)) then
  some ([],e_)
 else
  (Z3n (⟨u0,u1,u2,u3,u4,u5,u6,u7⟩:TJUrl)).bind fun r_2 =>
  if decide (500<(r_2.length:Int)) then
   some ([],2)
  else
   some (r_2,0)
theorem Z5z {mL:Int}{e_:Int}{u0:Tx}{u1:Tx}{u2:Int}{u3:TT}{u4:Tx}{u5:Bool}{u6:Tx}{u7:Bool}{o:(Tx×Int)}(h:Z18 e_ u0 u1 u2 u3 u4 u5 u6 u7=some o) :
  Sv Tryz.prog (GG mL) 0 a9_c2 (Ends a9.results 0 (Z5y o)) ⟨(ue [(8,(.c (.ref 0 8 0 0))),(7,(I e_))]),(upd e0 0 (some (.cells 8 [[.str u0,.str u1,cI u2,.ro false 1 (u3.map eStr),.str u4,cB u5,.str u6,cB u7]]))),1⟩:=by
 unfold Z18 at h
 refine Sv.seq<|ssr<|un1 rfl<|un1 (v:=(B (!decide (e_=0)))) rfl<|dnil ?_
 refine Sv.cnd rfl h (fun h=>?_) fun h=>?_
 ·refine ssr<|un1 rfl<|un1 rfl<|un1 rfl<|dnil<|Sv.ret ?_
  exact rt0 h rfl rfl ⟨rfl,rfl,rfl⟩
 ·refine Sv.skip<|ssr<|un1 (v:=(.agg [.str u0,.str u1,cI u2,.ro false 1 (u3.map eStr),.str u4,cB u5,.str u6,cB u7])) rfl ?_
  obtain ⟨r_2,hr3,h⟩:=bnd h
  refine un<|ac_pure (Zfw hr3) rfl rfl rfl<|un1 rfl<|dnil<|Sv.seq<|ssr<|un1 rfl<|un1 (v:=(I (r_2.length:Int))) rfl<|un1 (v:=(B (decide (500<(r_2.length:Int))))) rfl<|dnil ?_
  refine Sv.cnd rfl h (fun h=>?_) fun h=>?_
  ·refine ssr<|un1 rfl<|un1 rfl<|dnil<|Sv.ret ?_
   exact rt0 h rfl rfl ⟨rfl,rfl,rfl⟩
  ·refine Sv.skip<|ssr<|un1 rfl<|un1 rfl<|un1 rfl<|dnil<|Sv.ret ?_
   exact rt0 h rfl rfl ⟨rfl,rfl,rfl⟩
abbrev Zfx (mL:Int) (o:(Tx×Int)):AExit→St→Prop:=AThen (Sv Tryz.prog (GG mL) 0 a9_c2 (Ends a9.results 0 (Z5y o))) (Ends a9.results 0 (Z5y o))
abbrev Z60 (mL:Int) (o:(Tx×Int)):AExit→St→Prop:=ABlock 0 (Zfx mL o)
noncomputable def Z56 (r_8:(Tx×Bool×TJUrl)) (r_:(TJUrl×Int)) (u41:Tx) (u51:Bool) (l_:TT):Option (Tx×Int) :=
 if (!decide (r_8.1=[])) then
  (Z3m l_).bind fun r_11 =>
  Z18 r_.2 r_8.2.2.Scheme r_8.2.2.Host r_8.2.2.Port r_11 u41 u51 r_8.2.2.Fragment r_8.2.2.Points
 else
  Z18 r_.2 r_8.2.2.Scheme r_8.2.2.Host r_8.2.2.Port r_8.2.2.Path u41 u51 r_8.2.2.Fragment r_8.2.2.Points
theorem Zb0 {mL:Int}{r_8:(Tx×Bool×TJUrl)}{r_:(TJUrl×Int)}{u41:Tx}{u51:Bool}{l_:TT}{zl:Bool}(hzl:zl=true→l_=[]) {o:(Tx×Int)}(h:Z56 r_8 r_ u41 u51 l_=some o) :
  Sv Tryz.prog (GG mL) 0 a9_c3 (Z60 mL o) ⟨(ue [(13,(lstV zl 1 1 l_.length)),(11,(S r_8.1)),(8,(.c (.ref 0 8 0 0))),(7,(I r_.2))]),(upd (upd e0 0 (some (.cells 8 [[.str r_8.2.2.Scheme,.str r_8.2.2.Host,cI r_8.2.2.Port,.ro false 1 (r_8.2.2.Path.map eStr),.str u41,cB u51,.str r_8.2.2.Fragment,cB r_8.2.2.Points]]))) 1 (lstB zl 1 (l_.map eStr))),2⟩:=by
 unfold Z56 at h
 refine ssr<|un1 rfl<|un1 (v:=(B (!decide (r_8.1=[])))) rfl<|dnil ?_
 refine Sv.cnd rfl h (fun h=>?_) fun h=>?_
 ·refine srg<|un1 rfl ?_
  obtain ⟨r_11,hr10,h⟩:=bnd h
  refine un<|ac_gen (bs:=[]) («as»:=[(.c (.ro false 1 (l_.map eStr)))]) (h2:=(upd _ 1 none)) (h1:=e0) (Zas hr10) rfl (.cons (.c (lstC_ro (es:=List.map eStr l_) rfl (List.length_map eStr).symm (map_nil_of hzl) (gone rfl) (fr_map fun _=>rfl))) .nil) (hsub_none (hsub_refl _)) (.nil _) (fun _=>rfl) (by decide) (by decide) (.cons (avAs_free rfl) .nil) .nil ?_
  rintro _ _ _ hn ⟨z_1,hz_1,rfl,rfl,rfl⟩
  refine ⟨.inr ⟨(by cases z_1 <;> rfl),(.row (cl_map fun _=>rfl) .nil)⟩,(upd (rem [] _) 2 (lstB z_1 1 (r_11.map eStr))),fun hbd=>(m3_cons (m3_row rfl (fr_map fun _=>rfl)) (m3_rem (in_nil _) (.cons (by decide) .nil) hbd)),(lstV z_1 2 1 r_11.length),3,(by cases z_1 <;> rfl),rfl,?_⟩
  refine un1 (v:=(.c (.ref 0 8 0 3))) rfl<|un<|a2n (h' := upd _ 0 (some (.cells 8 [[.str r_8.2.2.Scheme,.str r_8.2.2.Host,cI r_8.2.2.Port,lstC z_1 2 1 r_11.length,.str u41,cB u51,.str r_8.2.2.Fragment,cB r_8.2.2.Points]]))) (n' := 3) rfl rfl hcs<|dnil ?_
  exact Sv.weak (wcn [0] rfl (.cr rfl rfl rfl (.cf rfl rfl .nil)) (.box (by decide) rfl (blkAs_cells (.sm rfl (.sm rfl (.sm rfl (.cons (lstC_ro (es:=List.map eStr r_11) rfl (List.length_map eStr).symm (map_nil_of hz_1) (fun b x hx=>not_in (bs:=[0]) rfl b (((.cons (by decide) .nil):HLt _ _) b x hx)) (fr_map fun _=>rfl)) (.sm rfl (.sm rfl (.sm rfl (.sm rfl .nil))))))))) .nil)) (Z5z h)
 ·refine Sv.skip ?_
  exact Sv.weak (wcn [0] rfl (.cr rfl rfl rfl (.cf rfl rfl .nil)) (.box (by decide) rfl (blkAs_cells (.sm rfl (.sm rfl (.sm rfl (.sm rfl (.sm rfl (.sm rfl (.sm rfl (.sm rfl .nil))))))))) .nil)) (Z5z h)
abbrev Zfy (mL:Int) (o:(Tx×Int)):AExit→St→Prop:=AThen (Sv Tryz.prog (GG mL) 0 a9_c3 (Z60 mL o)) (Z60 mL o)
noncomputable def Z57 (r_:(TJUrl×Int)) (r_8:(Tx×Bool×TJUrl)) (u41:Tx) (u51:Bool) (l_1:TT) (v69:Bool):Option (Tx×Int) :=
 if v69 then
  (sub? r_.1.Path 0 (wi ((r_.1.Path.length:Int) - 1))).bind fun r_12 =>
  (app? 16 ([]:TT) r_12).bind fun r_13 =>
  (app? 16 r_13 l_1).bind fun r_14 =>
  Z56 r_8 r_ u41 u51 r_14
 else
  Z56 r_8 r_ u41 u51 l_1
theorem Zb1 {mL:Int}{r_:(TJUrl×Int)}{r_8:(Tx×Bool×TJUrl)}{u41:Tx}{u51:Bool}{l_1:TT}{v69:Bool}{zl_1:Bool}(hzl_1:zl_1=true→l_1=[]) {o:(Tx×Int)}(h:Z57 r_ r_8 u41 u51 l_1 v69=some o) :
  Sv Tryz.prog (GG mL) 0 a9_c1 (Zfy mL o) ⟨(ue [(69,(B v69)),(13,(lstV zl_1 2 1 l_1.length)),(11,(S r_8.1)),(8,(.c (.ref 1 8 0 0))),(7,(I r_.2)),(6,(.c (.ref 0 8 0 0)))]),(upd (upd (upd e0 0 (some (.cells 8 [[.str r_.1.Scheme,.str r_.1.Host,cI r_.1.Port,.ro false 1 (r_.1.Path.map eStr),.str r_.1.Query,cB r_.1.Asks,.str r_.1.Fragment,cB r_.1.Points]]))) 1 (some (.cells 8 [[.str r_8.2.2.Scheme,.str r_8.2.2.Host,cI r_8.2.2.Port,.ro false 1 (r_8.2.2.Path.map eStr),.str u41,cB u51,.str r_8.2.2.Fragment,cB r_8.2.2.Points]]))) 2 (lstB zl_1 1 (l_1.map eStr))),3⟩:=by
 unfold Z57 at h
 refine Sv.cnd rfl h (fun h=>?_) fun h=>?_
 ·refine srg<|un<|a2v (v:=(lstV false 3 1 ([]:TT).length)) (h' := upd _ 3 (lstB false 1 (([]:TT).map eStr))) (n' := 4) rfl rfl hcs<|un1 (v:=(.c (.ref 0 8 0 3))) rfl<|un1 (v:=(.c (.ro false 1 (r_.1.Path.map eStr)))) rfl<|un1 (v:=(.c (.ref 0 8 0 3))) rfl<|un1 (v:=(.c (.ro false 1 (r_.1.Path.map eStr)))) rfl<|un1 (v:=(I (r_.1.Path.length:Int))) (s_len (e:=eStr) (xs:=r_.1.Path) rfl)<|un1 (v:=(I (wi ((r_.1.Path.length:Int) - 1)))) rfl ?_
  obtain ⟨r_12,hx3,h⟩:=bnd h
  refine un1 (v:=(.c (.ro false 1 (r_12.map eStr)))) (s_slSl (e:=eStr) rfl rfl rfl hx3) ?_
  obtain ⟨r_13,hr11,h⟩:=bnd h
  have hz1:(false&&r_12.isEmpty)=true→r_13=[]:=app_nil (z:=false) (ys:=r_12) hcs hr11
  replace hz1:false=true→r_13=[]:=hz1
  refine un<|a2v rfl (s_app (xs:=([]:TT)) (ys:=r_12) (e:=eStr) (z:=false) (b:=3) rfl rfl hcs rfl rfl (slc_ro) hr11) hcs<|un1 rfl ?_
  obtain ⟨r_14,hr12,h⟩:=bnd h
  have hz2:(false&&l_1.isEmpty)=true→r_14=[]:=app_nil (z:=false) (ys:=l_1) hz1 hr12
  replace hz2:false=true→r_14=[]:=hz2
  refine un<|a2v rfl (s_app (xs:=r_13) (ys:=l_1) (e:=eStr) (z:=false) (b:=4) rfl rfl hz1 rfl rfl (slc_lst rfl (List.length_map _).symm (map_nil_of hzl_1)) hr12) hcs<|un1 rfl<|dnil ?_
  exact Sv.weak (wcn [1,5] rfl (.cons rfl (.c (lsr rfl rfl)) (.cf rfl rfl (.cr rfl rfl rfl (.cf rfl rfl .nil)))) (.row (by decide) rfl (fr_map fun _=>rfl) (.box (by decide) rfl (blkAs_cells (.sm rfl (.sm rfl (.sm rfl (.sm rfl (.sm rfl (.sm rfl (.sm rfl (.sm rfl .nil))))))))) .nil))) (Zb0 hz2 h)
 ·refine Sv.skip ?_
  exact Sv.weak (wcn [1,2] rfl (.cons rfl (.c (lsr rfl rfl)) (.cf rfl rfl (.cr rfl rfl rfl (.cf rfl rfl .nil)))) (.row (by decide) rfl (fr_map fun _=>rfl) (.box (by decide) rfl (blkAs_cells (.sm rfl (.sm rfl (.sm rfl (.sm rfl (.sm rfl (.sm rfl (.sm rfl (.sm rfl .nil))))))))) .nil))) (Zb0 hzl_1 h)
noncomputable def Z22 (r_8:(Tx×Bool×TJUrl)) (r_:(TJUrl×Int)) (u41:Tx) (u51:Bool):Option (Tx×Int) :=
 (Z7 r_8.1 [47]).bind fun r_9 =>
 (Z3l r_9).bind fun r_10 =>
 if ((!r_8.2.1)||(!r_10.2)) then
  some ([],3)
 else
  if (!decide (r_8.1=[])) then
   (Zj r_8.1 [47]).bind fun r_15 =>
   Z57 r_ r_8 u41 u51 r_10.1 (!r_15)
  else
   Z57 r_ r_8 u41 u51 r_10.1 false
theorem Z7b {mL:Int}{r_8:(Tx×Bool×TJUrl)}{r_:(TJUrl×Int)}{u41:Tx}{u51:Bool}{o:(Tx×Int)}(h:Z22 r_8 r_ u41 u51=some o) :
  Sv Tryz.prog (GG mL) 0 a9_c0 (Z60 mL o) ⟨(ue [(12,(B r_8.2.1)),(11,(S r_8.1)),(8,(.c (.ref 1 8 0 0))),(7,(I r_.2)),(6,(.c (.ref 0 8 0 0)))]),(upd (upd e0 0 (some (.cells 8 [[.str r_.1.Scheme,.str r_.1.Host,cI r_.1.Port,.ro false 1 (r_.1.Path.map eStr),.str r_.1.Query,cB r_.1.Asks,.str r_.1.Fragment,cB r_.1.Points]]))) 1 (some (.cells 8 [[.str r_8.2.2.Scheme,.str r_8.2.2.Host,cI r_8.2.2.Port,.ro false 1 (r_8.2.2.Path.map eStr),.str u41,cB u51,.str r_8.2.2.Fragment,cB r_8.2.2.Points]]))),2⟩:=by
 unfold Z22 at h
 refine ssr<|un1 rfl ?_
 obtain ⟨r_9,hr8,h⟩:=bnd h
 refine un<|ac_pure (Z2d hr8) rfl rfl rfl ?_
 obtain ⟨r_10,hr9,h⟩:=bnd h
 refine un<|ac_gen (bs:=[]) («as»:=[(S r_9)]) (h2:=_) (h1:=e0) (Zan hr9) rfl (.cons (avAs_free rfl) .nil) (hsub_refl _) (.nil _) (fun _=>rfl) (by decide) (by decide) (.cons (avAs_free rfl) .nil) .nil ?_
 rintro _ _ _ hn ⟨z_,hz_,rfl,rfl,rfl⟩
 refine ⟨.inl rfl,(upd (rem [] _) 2 (lstB z_ 1 (r_10.1.map eStr))),fun hbd=>(m3_cons (m3_row rfl (fr_map fun _=>rfl)) (m3_rem (in_nil _) (.cons (by decide) .nil) hbd)),(.tup [(lstV z_ 2 1 r_10.1.length),(B r_10.2)]),3,(by cases z_ <;> rfl),rfl,?_⟩
 refine un1 rfl<|un1 (v:=(lstV z_ 2 1 r_10.1.length)) rfl<|un1 (v:=(B r_10.2)) rfl<|un1 rfl<|un1 rfl<|dnil<|Sv.seq<|ssr<|un1 rfl<|un1 (v:=(B (!r_8.2.1))) rfl<|un1 rfl ?_
 refine gjoin 3 (d:=62) (v:=(B ((!r_8.2.1)||(!r_10.2)))) (fun X hX=>?_) ?_
 ·refine split2 (fun hc7=>?_) (fun hc7=>?_)
  ·refine gs rfl rfl<|gs rfl rfl<|un1 (v:=(B true)) rfl<|dnil ?_
   exact hX _ (.putEq (by rw [hc7]; rfl) (.skp (.skp (.putEq (by rw [hc7]) (.refl _)) rfl) rfl))
  ·refine gt rfl<|a1 rfl<|gt rfl<|a1 (v:=(B (!r_10.2))) rfl<|un1 (v:=(B (!r_10.2))) rfl<|dnil ?_
   exact hX _ (.putEq (by rw [hc7]; rfl) (.skp (.skp (.putEq (by rw [hc7]) (.refl _)) rfl) rfl))
 refine dnil ?_
 refine Sv.cnd rfl h (fun h=>?_) fun h=>?_
 ·refine ssr<|un1 rfl<|un1 rfl<|dnil<|Sv.ret ?_
  exact rt0 h rfl rfl ⟨rfl,rfl,rfl⟩
 ·refine Sv.skip<|Sv.seq<|ssr<|un1 rfl<|un1 (v:=(B (!decide (r_8.1=[])))) rfl<|un1 rfl ?_
  refine spl h (fun h=>?_) fun h=>?_
  ·refine gt rfl<|a1 rfl ?_
   obtain ⟨r_15,hr13,h⟩:=bnd h
   refine gt rfl<|ac_pure (Z5j hr13) rfl rfl rfl<|gt rfl<|a1 (v:=(B (!r_15))) rfl<|un1 (v:=(B (!r_15))) rfl<|dnil ?_
   exact Sv.weak (wcn [0,1,2] rfl (.cf rfl rfl (.cons rfl (.c (lsr rfl rfl)) (.cf rfl rfl (.cr rfl rfl rfl (.cf rfl rfl (.cr rfl rfl rfl .nil)))))) (.row (by decide) rfl (fr_map fun _=>rfl) (.box (by decide) rfl (blkAs_cells (.sm rfl (.sm rfl (.sm rfl (.sm rfl (.sm rfl (.sm rfl (.sm rfl (.sm rfl .nil))))))))) (.box (by decide) rfl (blkAs_cells (.sm rfl (.sm rfl (.sm rfl (.sm rfl (.sm rfl (.sm rfl (.sm rfl (.sm rfl .nil))))))))) .nil)))) (Zb1 hz_ h)
  ·refine gs rfl rfl<|gs rfl rfl<|gs rfl rfl<|un1 (v:=(B false)) rfl<|dnil ?_
   exact Sv.weak (wcn [0,1,2] rfl (.cf rfl rfl (.cons rfl (.c (lsr rfl rfl)) (.cf rfl rfl (.cr rfl rfl rfl (.cf rfl rfl (.cr rfl rfl rfl .nil)))))) (.row (by decide) rfl (fr_map fun _=>rfl) (.box (by decide) rfl (blkAs_cells (.sm rfl (.sm rfl (.sm rfl (.sm rfl (.sm rfl (.sm rfl (.sm rfl (.sm rfl .nil))))))))) (.box (by decide) rfl (blkAs_cells (.sm rfl (.sm rfl (.sm rfl (.sm rfl (.sm rfl (.sm rfl (.sm rfl (.sm rfl .nil))))))))) .nil)))) (Zb1 hz_ h)
noncomputable def Z23 (base:Tx) (ref:Tx):Option (Tx×Int) :=
 (Zq base).bind fun r_ =>
 if (!decide (r_.2=0)) then
  some ([],r_.2)
 else
  if decide (500<(ref.length:Int)) then
   some ([],2)
  else
   (Z3c ref).bind fun r_1 =>
   if r_1.2 then
    (Zq ref).bind fun r_3 =>
    Z18 r_3.2 r_3.1.Scheme r_3.1.Host r_3.1.Port r_3.1.Path r_3.1.Query r_3.1.Asks r_3.1.Fragment r_3.1.Points
   else
    (Zj ref [47,47]).bind fun r_4 =>
    if r_4 then
     (cat? r_.1.Scheme [58]).bind fun r_5 =>
     (cat? r_5 ref).bind fun r_6 =>
     (Zq r_6).bind fun r_7 =>
     Z18 r_7.2 r_7.1.Scheme r_7.1.Host r_7.1.Port r_7.1.Path r_7.1.Query r_7.1.Asks r_7.1.Fragment r_7.1.Points
    else
     (Z50 r_.1 ref).bind fun r_8 =>
     if ((decide (r_8.1=[]))&&(!r_8.2.2.Asks)) then
      Z22 r_8 r_ r_.1.Query r_.1.Asks
     else
      Z22 r_8 r_ r_8.2.2.Query r_8.2.2.Asks
theorem Z7c {mL:Int}{base:Tx}{ref:Tx}{r:(Tx×Int)}(h:Z23 base ref=some r):CPure Tryz.prog (GG mL) 9 [(S base),(S ref)] (.tup [(S r.1),(I r.2)]):=by
 refine acalls_of_sv hmix c9 (R:=Z5y r) ?_
 unfold Z23 at h
 refine ssr<|un1 rfl<|un1 rfl<|dnil<|ssr<|un1 rfl ?_
 obtain ⟨r_,hr1,h⟩:=bnd h
 refine un<|ac_pure (Z2s hr1) rfl rfl rfl<|un1 rfl<|un1 (v:=(.agg [.str r_.1.Scheme,.str r_.1.Host,cI r_.1.Port,.ro false 1 (r_.1.Path.map eStr),.str r_.1.Query,cB r_.1.Asks,.str r_.1.Fragment,cB r_.1.Points])) rfl<|un1 (v:=(I r_.2)) rfl<|un<|a2v (v:=(.c (.ref 0 8 0 0))) (h' := upd _ 0 (some (.cells 8 [[.str [],.str [],cI 0,.ro true 1 [],.str [],cB false,.str [],cB false]]))) (n' := 1) rfl rfl hcs<|un<|a2n (h' := upd _ 0 (some (.cells 8 [[.str r_.1.Scheme,.str r_.1.Host,cI r_.1.Port,.ro false 1 (r_.1.Path.map eStr),.str r_.1.Query,cB r_.1.Asks,.str r_.1.Fragment,cB r_.1.Points]]))) (n' := 1) rfl rfl hcs<|un1 rfl<|dnil<|Sv.seq<|ssr<|un1 rfl<|un1 (v:=(B (!decide (r_.2=0)))) rfl<|dnil ?_
 refine Sv.cnd rfl h (fun h=>?_) fun h=>?_
 ·refine ssr<|un1 rfl<|un1 rfl<|un1 rfl<|dnil<|Sv.ret ?_
  exact rt0 h rfl rfl ⟨rfl,rfl,rfl⟩
 ·refine Sv.skip<|Sv.seq<|ssr<|un1 rfl<|un1 (v:=(I (ref.length:Int))) rfl<|un1 (v:=(B (decide (500<(ref.length:Int))))) rfl<|dnil ?_
  refine Sv.cnd rfl h (fun h=>?_) fun h=>?_
  ·refine ssr<|un1 rfl<|un1 rfl<|dnil<|Sv.ret ?_
   exact rt0 h rfl rfl ⟨rfl,rfl,rfl⟩
  ·refine Sv.skip<|ssr<|un1 (v:=(.agg [.str r_.1.Scheme,.str r_.1.Host,cI r_.1.Port,.ro false 1 (r_.1.Path.map eStr),.str r_.1.Query,cB r_.1.Asks,.str r_.1.Fragment,cB r_.1.Points])) rfl<|un<|a2v (v:=(.c (.ref 1 8 0 0))) (h' := upd _ 1 (some (.cells 8 [[.str [],.str [],cI 0,.ro true 1 [],.str [],cB false,.str [],cB false]]))) (n' := 2) rfl rfl hcs<|un<|a2n (h' := upd _ 1 (some (.cells 8 [[.str r_.1.Scheme,.str r_.1.Host,cI r_.1.Port,.ro false 1 (r_.1.Path.map eStr),.str r_.1.Query,cB r_.1.Asks,.str r_.1.Fragment,cB r_.1.Points]]))) (n' := 2) rfl rfl hcs<|dnil<|ssr<|un1 rfl ?_
   obtain ⟨r_1,hr2,h⟩:=bnd h
   refine un<|ac_pure (Z9s hr2) rfl rfl rfl<|un1 rfl<|un1 (v:=(S r_1.1)) rfl<|un1 (v:=(B r_1.2)) rfl<|un1 rfl<|un1 rfl<|dnil<|Sv.seq<|Sv.block<|ssr<|un1 rfl<|un1 rfl<|dnil ?_
   refine Sv.cnd rfl h (fun h=>?_) fun h=>?_
   ·refine srg<|un1 rfl ?_
    obtain ⟨r_3,hr4,h⟩:=bnd h
    refine un<|ac_pure (Z2s hr4) rfl rfl rfl<|un1 rfl<|un1 (v:=(.agg [.str r_3.1.Scheme,.str r_3.1.Host,cI r_3.1.Port,.ro false 1 (r_3.1.Path.map eStr),.str r_3.1.Query,cB r_3.1.Asks,.str r_3.1.Fragment,cB r_3.1.Points])) rfl<|un1 (v:=(I r_3.2)) rfl<|un<|a2n (h' := upd _ 1 (some (.cells 8 [[.str r_3.1.Scheme,.str r_3.1.Host,cI r_3.1.Port,.ro false 1 (r_3.1.Path.map eStr),.str r_3.1.Query,cB r_3.1.Asks,.str r_3.1.Fragment,cB r_3.1.Points]]))) (n' := 2) rfl rfl hcs<|un1 rfl<|dnil ?_
    exact Sv.weak (wcn [1] rfl (.cr rfl rfl rfl (.cf rfl rfl .nil)) (.box (by decide) rfl (blkAs_cells (.sm rfl (.sm rfl (.sm rfl (.sm rfl (.sm rfl (.sm rfl (.sm rfl (.sm rfl .nil))))))))) .nil)) (Z5z h)
   ·refine ssr<|un1 rfl ?_
    obtain ⟨r_4,hr5,h⟩:=bnd h
    refine un<|ac_pure (Z5j hr5) rfl rfl rfl<|un1 rfl<|dnil ?_
    refine Sv.cnd rfl h (fun h=>?_) fun h=>?_
    ·refine srg<|un1 (v:=(.c (.ref 0 8 0 0))) rfl<|un1 (v:=(S r_.1.Scheme)) rfl ?_
     obtain ⟨r_5,hx1,h⟩:=bnd h
     refine un1 (v:=(S r_5)) (s_cat rfl rfl hx1)<|un1 rfl ?_
     obtain ⟨r_6,hx2,h⟩:=bnd h
     refine un1 (v:=(S r_6)) (s_cat rfl rfl hx2) ?_
     obtain ⟨r_7,hr6,h⟩:=bnd h
     refine un<|ac_pure (Z2s hr6) rfl rfl rfl<|un1 rfl<|un1 (v:=(.agg [.str r_7.1.Scheme,.str r_7.1.Host,cI r_7.1.Port,.ro false 1 (r_7.1.Path.map eStr),.str r_7.1.Query,cB r_7.1.Asks,.str r_7.1.Fragment,cB r_7.1.Points])) rfl<|un1 (v:=(I r_7.2)) rfl<|un<|a2n (h' := upd _ 1 (some (.cells 8 [[.str r_7.1.Scheme,.str r_7.1.Host,cI r_7.1.Port,.ro false 1 (r_7.1.Path.map eStr),.str r_7.1.Query,cB r_7.1.Asks,.str r_7.1.Fragment,cB r_7.1.Points]]))) (n' := 2) rfl rfl hcs<|un1 rfl<|dnil ?_
     exact Sv.weak (wcn [1] rfl (.cr rfl rfl rfl (.cf rfl rfl .nil)) (.box (by decide) rfl (blkAs_cells (.sm rfl (.sm rfl (.sm rfl (.sm rfl (.sm rfl (.sm rfl (.sm rfl (.sm rfl .nil))))))))) .nil)) (Z5z h)
    ·refine ssr<|un1 rfl ?_
     obtain ⟨r_8,hr7,h⟩:=bnd h
     refine un<|ac_gen (bs:=[1]) («as»:=[(.c (.ref 1 8 0 0)),(S ref)]) (h2:=_) (h1:=(upd e0 1 (some (.cells 8 [[.str r_.1.Scheme,.str r_.1.Host,cI r_.1.Port,.ro false 1 (r_.1.Path.map eStr),.str r_.1.Query,cB r_.1.Asks,.str r_.1.Fragment,cB r_.1.Points]])))) (Zfe hr7) rfl (.cons (.c (.ref rfl (by decide))) (.cons (avAs_free rfl) .nil)) (hsub_refl _) (.cons rfl (.nil _)) hcs (by decide) (by decide) (.cons (.c (.ref rfl (by decide))) (.cons (avAs_free rfl) .nil)) (.box (by decide) rfl (blkAs_cells (.sm rfl (.sm rfl (.sm rfl (.sm rfl (.sm rfl (.sm rfl (.sm rfl (.sm rfl .nil))))))))) .nil) ?_
     rintro _ _ _ hn ⟨rfl,rfl,rfl⟩
     refine ⟨.inl rfl,(upd (rem [1] _) 1 (some (.cells 8 [[.str r_8.2.2.Scheme,.str r_8.2.2.Host,cI r_8.2.2.Port,.ro false 1 (r_8.2.2.Path.map eStr),.str r_8.2.2.Query,cB r_8.2.2.Asks,.str r_8.2.2.Fragment,cB r_8.2.2.Points]]))),fun hbd=>(m3_cons (m3_box rfl rfl) (m3_rem (in_cons (by decide) (in_nil _)) (.cons (by decide) .nil) hbd)),(.tup [(S r_8.1),(B r_8.2.1)]),2,rfl,rfl,?_⟩
     refine un1 rfl<|un1 (v:=(S r_8.1)) rfl<|un1 (v:=(B r_8.2.1)) rfl<|un1 rfl<|un1 rfl<|dnil<|Sv.seq<|ssr<|un1 rfl<|un1 (v:=(B (decide (r_8.1=[])))) rfl<|un1 rfl ?_
     refine gjoin 4 (d:=44) (v:=(B ((decide (r_8.1=[]))&&(!r_8.2.2.Asks)))) (fun X hX=>?_) ?_
     ·refine split2 (fun hc12=>?_) (fun hc12=>?_)
      ·refine gt rfl<|a1 (v:=(.c (.ref 1 8 0 5))) rfl<|gt rfl<|a1 (v:=(B r_8.2.2.Asks)) rfl<|gt rfl<|a1 (v:=(B (!r_8.2.2.Asks))) rfl<|un1 (v:=(B (!r_8.2.2.Asks))) rfl<|dnil ?_
       exact hX _ (.putEq (by rw [hc12]; rfl) (.skp (.skp (.skp (.putEq (by rw [hc12]) (.refl _)) rfl) rfl) rfl))
      ·refine gs rfl rfl<|gs rfl rfl<|gs rfl rfl<|un1 (v:=(B false)) rfl<|dnil ?_
       exact hX _ (.putEq (by rw [hc12]; rfl) (.skp (.skp (.skp (.putEq (by rw [hc12]) (.refl _)) rfl) rfl) rfl))
     refine dnil ?_
     refine Sv.cnd rfl h (fun h=>?_) fun h=>?_
     ·refine Sv.drawn2<|un1 (v:=(.c (.ref 0 8 0 4))) rfl<|un1 (v:=(S r_.1.Query)) rfl<|un1 (v:=(.c (.ref 0 8 0 5))) rfl<|un1 (v:=(.c (.ref 1 8 0 4))) rfl<|dnil ?_
      refine ⟨?_,?_⟩
      ·refine un1 (v:=(B r_.1.Asks)) rfl<|un<|a2n (h' := upd _ 1 (some (.cells 8 [[.str r_8.2.2.Scheme,.str r_8.2.2.Host,cI r_8.2.2.Port,.ro false 1 (r_8.2.2.Path.map eStr),.str r_.1.Query,cB r_8.2.2.Asks,.str r_8.2.2.Fragment,cB r_8.2.2.Points]]))) (n' := 2) rfl rfl hcs<|un1 (v:=(.c (.ref 1 8 0 5))) rfl<|un<|a2n (h' := upd _ 1 (some (.cells 8 [[.str r_8.2.2.Scheme,.str r_8.2.2.Host,cI r_8.2.2.Port,.ro false 1 (r_8.2.2.Path.map eStr),.str r_.1.Query,cB r_.1.Asks,.str r_8.2.2.Fragment,cB r_8.2.2.Points]]))) (n' := 2) rfl rfl hcs<|dnil ?_
       exact Sv.weak (wcn [0,1] rfl (.cf rfl rfl (.cf rfl rfl (.cr rfl rfl rfl (.cf rfl rfl (.cr rfl rfl rfl .nil))))) (.box (by decide) rfl (blkAs_cells (.sm rfl (.sm rfl (.sm rfl (.sm rfl (.sm rfl (.sm rfl (.sm rfl (.sm rfl .nil))))))))) (.box (by decide) rfl (blkAs_cells (.sm rfl (.sm rfl (.sm rfl (.sm rfl (.sm rfl (.sm rfl (.sm rfl (.sm rfl .nil))))))))) .nil))) (Z7b h)
      ·refine un<|a2n (h' := upd _ 1 (some (.cells 8 [[.str r_8.2.2.Scheme,.str r_8.2.2.Host,cI r_8.2.2.Port,.ro false 1 (r_8.2.2.Path.map eStr),.str r_.1.Query,cB r_8.2.2.Asks,.str r_8.2.2.Fragment,cB r_8.2.2.Points]]))) (n' := 2) rfl rfl hcs<|un1 (v:=(B r_.1.Asks)) rfl<|un1 (v:=(.c (.ref 1 8 0 5))) rfl<|un<|a2n (h' := upd _ 1 (some (.cells 8 [[.str r_8.2.2.Scheme,.str r_8.2.2.Host,cI r_8.2.2.Port,.ro false 1 (r_8.2.2.Path.map eStr),.str r_.1.Query,cB r_.1.Asks,.str r_8.2.2.Fragment,cB r_8.2.2.Points]]))) (n' := 2) rfl rfl hcs<|dnil ?_
       exact Sv.weak (wcn [0,1] rfl (.cf rfl rfl (.cf rfl rfl (.cr rfl rfl rfl (.cf rfl rfl (.cr rfl rfl rfl .nil))))) (.box (by decide) rfl (blkAs_cells (.sm rfl (.sm rfl (.sm rfl (.sm rfl (.sm rfl (.sm rfl (.sm rfl (.sm rfl .nil))))))))) (.box (by decide) rfl (blkAs_cells (.sm rfl (.sm rfl (.sm rfl (.sm rfl (.sm rfl (.sm rfl (.sm rfl (.sm rfl .nil))))))))) .nil))) (Z7b h)
     ·refine Sv.skip ?_
      exact Sv.weak (wcn [0,1] rfl (.cf rfl rfl (.cf rfl rfl (.cr rfl rfl rfl (.cf rfl rfl (.cr rfl rfl rfl .nil))))) (.box (by decide) rfl (blkAs_cells (.sm rfl (.sm rfl (.sm rfl (.sm rfl (.sm rfl (.sm rfl (.sm rfl (.sm rfl .nil))))))))) (.box (by decide) rfl (blkAs_cells (.sm rfl (.sm rfl (.sm rfl (.sm rfl (.sm rfl (.sm rfl (.sm rfl (.sm rfl .nil))))))))) .nil))) (Z7b h)
def a11_c1:ACode:=(sr [(oP 114 (.bin .lss (.tmp 113) (.tmp 112)))]
 (.seq (.cond (.tmp 114) .skip (.exit 4))
 (.seq (.block 5 (sr [(oP 115 (.iaddr 3 (.tmp 111) (.tmp 113))),(oP 116 (.load true 3 (.tmp 115))),(oP 16 (.box (.const (.agg [(.str []),(.str []),(.val (.int .i64 0))])))),(oN (.store 3 (.tmp 16) (.tmp 116)))]
 (.region [(mV 117 4),(mV 118 117),⟨(some 119),(.faddr 2 (.tmp 16)),(some (118,true))⟩,⟨(some 120),(.load false 1 (.tmp 119)),(some (118,true))⟩,⟨(some 121),(.faddr 2 (.tmp 6)),(some (118,true))⟩,⟨(some 122),(.load false 1 (.tmp 121)),(some (118,true))⟩,⟨(some 123),(.bin .eql (.tmp 120) (.tmp 122)),(some (118,true))⟩,(oP 124 (.pick (.tmp 118) (.tmp 123) kF)),(mV 4 124)])))
 (.region [(oP 125 (.bin .add (.tmp 113) (kI 1))),(mV 113 125)]))))
def a11_c0:ACode:=(sr [(oP 107 (.faddr 0 (.tmp 1))),(oP 108 (.load false 1 (.tmp 107))),(mV 109 11),(mV 110 5),(oP 111 (.slSl 3 (.tmp 108) (some (.tmp 109)) (some (.tmp 110)) none)),(oP 112 (.len (.tmp 111))),(oP 113 (.mov (kI 0)))]
 (.block 4 (.loop a11_c1)))
def a11_c2:ACode:=(.region [(oP 126 (.bin .add (.tmp 83) (kI 1))),(mV 83 126)])
def a11_c3:ACode:=(sr [(oP 84 (.bin .lss (.tmp 83) (.tmp 82)))]
 (.seq (.cond (.tmp 84) .skip (.exit 2))
 (.seq (.block 3 (sr [(mV 85 83),(oP 86 (.iaddr 3 (.tmp 81) (.tmp 83))),(oP 87 (.load true 3 (.tmp 86))),(oP 12 (.box (.const (.agg [(.str []),(.str []),(.val (.int .i64 0))])))),(mV 11 85),(oN (.store 3 (.tmp 12) (.tmp 87)))]
 (.seq (sr [(oP 88 (.faddr 2 (.tmp 12))),(oP 89 (.load false 1 (.tmp 88))),(oP 90 (.faddr 2 (.tmp 6))),(oP 91 (.load false 1 (.tmp 90))),(oP 92 (.bin .neq (.tmp 89) (.tmp 91)))]
 (.cond (.tmp 92) (.exit 3) .skip))
 (sr [(oP 94 (.faddr 0 (.tmp 12))),(oP 95 (.load false 1 (.tmp 94))),(oP 96 (.call 23 [(.tmp 95)])),(mV 93 96),(oP 97 (.ext (.tmp 93) 0)),(oP 98 (.ext (.tmp 93) 1)),(oP 13 (.box (.const (.agg [(.str []),(.str []),(.val (.int .i64 0)),(.ro true 1 []),(.str []),(.val (.bool false)),(.str []),(.val (.bool false))])))),(oN (.store 8 (.tmp 13) (.tmp 97))),(mV 14 98)]
 (.seq (.drawn (.fin [((mV 99 4),(0,0)),((mV 100 99),(0,1)),(⟨(some 101),(.load true 8 (.tmp 9)),(some (100,true))⟩,(0,2)),(⟨(some 103),(.load true 8 (.tmp 13)),(some (100,true))⟩,(0,4)),(⟨(some 102),(.call 36 [(.tmp 101)]),(some (100,true))⟩,(1,3)),(⟨(some 104),(.call 36 [(.tmp 103)]),(some (100,true))⟩,(2,5)),(⟨(some 105),(.bin .eql (.tmp 102) (.tmp 104)),(some (100,true))⟩,(0,6)),((oP 106 (.pick (.tmp 100) (.tmp 105) kF)),(0,7)),((mV 4 106),(0,8))]))
 a11_c0)))))
 a11_c2)))
def a11_c4:ACode:=(.region [(oP 127 (.bin .add (.tmp 31) (kI 1))),(mV 31 127)])
def a11_c5:ACode:=(sr [(oP 32 (.bin .lss (.tmp 31) (.tmp 30)))]
 (.seq (.cond (.tmp 32) .skip (.exit 0))
 (.seq (.block 1 (sr [(mV 33 31),(oP 34 (.iaddr 3 (.tmp 29) (.tmp 31))),(oP 35 (.load true 3 (.tmp 34))),(oP 6 (.box (.const (.agg [(.str []),(.str []),(.val (.int .i64 0))])))),(mV 5 33),(oN (.store 3 (.tmp 6) (.tmp 35)))]
 (sr [(mV 36 3),(mV 37 36),⟨(some 38),(.faddr 1 (.tmp 6)),(some (37,false))⟩,⟨(some 39),(.load false 1 (.tmp 38)),(some (37,false))⟩,⟨(some 40),(.lenS (.tmp 39)),(some (37,false))⟩,⟨(some 41),(.bin .gtr (.tmp 40) (kI 2000)),(some (37,false))⟩,(oP 42 (.pick (.tmp 37) kT (.tmp 41))),(mV 3 42)]
 (sr [(oP 44 (.faddr 0 (.tmp 6))),(oP 45 (.load false 1 (.tmp 44))),(oP 46 (.faddr 0 (.tmp 6))),(oP 47 (.load false 1 (.tmp 46))),(oP 48 (.call 9 [(.tmp 45),(.tmp 47)])),(mV 43 48),(oP 49 (.ext (.tmp 43) 0)),(oP 50 (.ext (.tmp 43) 1)),(mV 7 49),(mV 8 50)]
 (sr [(mV 51 4),(mV 52 51),⟨(some 53),(.mov (.tmp 8)),(some (52,true))⟩,⟨(some 54),(.bin .eql (.tmp 53) (kI 0)),(some (52,true))⟩,(oP 55 (.pick (.tmp 52) (.tmp 54) kF)),(mV 56 55),⟨(some 57),(.mov (.tmp 7)),(some (56,true))⟩,⟨(some 58),(.faddr 0 (.tmp 6)),(some (56,true))⟩,⟨(some 59),(.load false 1 (.tmp 58)),(some (56,true))⟩,⟨(some 60),(.bin .eql (.tmp 57) (.tmp 59)),(some (56,true))⟩,(oP 61 (.pick (.tmp 56) (.tmp 60) kF)),(mV 62 61),⟨(some 63),(.faddr 2 (.tmp 6)),(some (62,true))⟩,⟨(some 64),(.load false 1 (.tmp 63)),(some (62,true))⟩,⟨(some 65),(.call 14 [(.tmp 64),(kI 0),(kI 1000000)]),(some (62,true))⟩,(oP 66 (.pick (.tmp 62) (.tmp 65) kF)),(mV 4 66)]
 (.seq (sr [(mV 67 4),(oP 68 (.un .not (.tmp 67))),(mV 69 68),⟨(some 70),(.mov (.tmp 3)),(some (69,false))⟩,(oP 71 (.pick (.tmp 69) kT (.tmp 70)))]
 (.cond (.tmp 71) (.exit 1) .skip))
 (sr [(oP 73 (.faddr 0 (.tmp 6))),(oP 74 (.load false 1 (.tmp 73))),(oP 75 (.call 23 [(.tmp 74)])),(mV 72 75),(oP 76 (.ext (.tmp 72) 0)),(oP 77 (.ext (.tmp 72) 1)),(oP 9 (.box (.const (.agg [(.str []),(.str []),(.val (.int .i64 0)),(.ro true 1 []),(.str []),(.val (.bool false)),(.str []),(.val (.bool false))])))),(oN (.store 8 (.tmp 9) (.tmp 76))),(mV 10 77)]
 (sr [(oP 78 (.faddr 0 (.tmp 1))),(oP 79 (.load false 1 (.tmp 78))),(mV 80 5),(oP 81 (.slSl 3 (.tmp 79) none (some (.tmp 80)) none)),(oP 82 (.len (.tmp 81))),(oP 83 (.mov (kI 0)))]
 (.block 2 (.loop a11_c3))))))))))
 a11_c4)))
def a11:AFunc:=⟨1,[(.tmp 2)],(sr [(oP 1 (.box (.tmp 0))),(oP 2 (.mov (kI 0)))]
 (sr [(oP 17 (.faddr 0 (.tmp 1))),(oP 18 (.load false 1 (.tmp 17))),(oP 19 (.len (.tmp 18))),(oP 20 (.bin .gtr (.tmp 19) (kI 50))),(mV 3 20)]
 (sr [(oP 21 (.faddr 1 (.tmp 1))),(oP 22 (.load false 1 (.tmp 21))),(oP 23 (.faddr 0 (.tmp 1))),(oP 24 (.load false 1 (.tmp 23))),(oP 25 (.len (.tmp 24))),(oP 26 (.bin .sub (.tmp 25) (kI 1))),(oP 27 (.call 14 [(.tmp 22),(kI 0),(.tmp 26)])),(mV 4 27)]
 (.seq (sr [(oP 28 (.faddr 0 (.tmp 1))),(oP 29 (.load false 1 (.tmp 28))),(oP 30 (.len (.tmp 29))),(oP 31 (.mov (kI 0)))]
 (.block 0 (.loop a11_c5)))
 (.seq (.block 6 (sr [(mV 129 3),(mV 128 129)]
 (.cond (.tmp 128) (sr [(oP 2 (.mov (kI 2)))]
 .ret) (sr [(mV 131 4),(oP 132 (.un .not (.tmp 131))),(mV 130 132)]
 (.cond (.tmp 130) (sr [(oP 2 (.mov (kI 3)))]
 .ret) .skip)))))
 (sr [(oP 2 (.mov (kI 0)))]
 .ret))))))⟩
theorem c11:compFunc Tryz.prog 11=some a11:=by kernel_rfl
def Z2t (r:Int):AV→Heap→Nat→Prop:=fun v h' n' => v=(I r)∧(h' = e0)∧n' = 0
abbrev Zb2 (t_:TJTrail) (F_:Bool→Bool→Int→Option Int) (o:Int) (R_:St→Prop):Prop:=∀(large:Bool) (right:Bool) (v31:Int),F_ large right v31=some o→∀ s,Weak 0 s ⟨(ue [(31,(I v31)),(30,(I (t_.Entries.length:Int))),(29,(.c (.ro false 3 (t_.Entries.map e_TJEntry)))),(4,(B right)),(3,(B large)),(1,(.c (.ref 0 2 0 0)))]),(upd e0 0 (some (.cells 2 [(e_TJTrail t_)]))),1⟩→R_ s
abbrev Zb3 (F_:Bool→Bool→Option Int) (o:Int) (R_:St→Prop):Prop:=∀(large1:Bool) (right1:Bool),F_ large1 right1=some o→∀ s,Weak 0 s ⟨(ue [(4,(B right1)),(3,(B large1))]),e0,0⟩→R_ s
noncomputable def Z3o (v31:Int) (t_:TJTrail) (self:Bool→Bool→Int→Option Int) (K0_:Bool→Bool→Option Int) (large2:Bool) (right2:Bool):Option Int :=
 self large2 right2 (wi (v31+1))
theorem Zb4 {mL:Int}{Q:AExit→St→Prop}{v31:Int}{t_:TJTrail}{self:Bool→Bool→Int→Option Int}{K0_:Bool→Bool→Option Int}{large2:Bool}{right2:Bool}{o:Int}(h:Z3o v31 t_ self K0_ large2 right2=some o)
  (hself:Zb2 t_ self o (Q .normal))
  (hK0:Zb3 K0_ o (Q (.exit 0)))
  (hr:∀ s,Ends a11.results 0 (Z2t o) .ret s→Q .ret s) :
  Sv Tryz.prog (GG mL) 0 a11_c4 Q ⟨(ue [(31,(I v31)),(30,(I (t_.Entries.length:Int))),(29,(.c (.ro false 3 (t_.Entries.map e_TJEntry)))),(4,(B right2)),(3,(B large2)),(1,(.c (.ref 0 2 0 0)))]),(upd e0 0 (some (.cells 2 [(e_TJTrail t_)]))),1⟩:=by
 unfold Z3o at h
 refine srg<|un1 (v:=(I (wi (v31+1)))) rfl<|un1 rfl<|dnil ?_
 exact hself large2 right2 (wi (v31+1)) h _ (wcn [0] rfl (.cf rfl rfl (.cf rfl rfl (.cf rfl rfl (.cf rfl rfl (.cf rfl rfl (.cr rfl rfl rfl .nil)))))) (.box (by decide) rfl (blkAs_cells (.sm rfl (.sm rfl .nil))) .nil))
abbrev Z7d (large:Bool) (x_:TJEntry) (v31:Int) (t_:TJTrail) (r_2:(List TJEntry)) (r_1:(TJUrl×Int)) (F_:Bool→Int→Option Int) (o:Int) (R_:St→Prop):Prop:=∀(right3:Bool) (v83:Int),F_ right3 v83=some o→∀ s,Weak 0 s ⟨(ue [(83,(I v83)),(82,(I (r_2.length:Int))),(81,(.c (.ro false 3 (r_2.map e_TJEntry)))),(31,(I v31)),(30,(I (t_.Entries.length:Int))),(29,(.c (.ro false 3 (t_.Entries.map e_TJEntry)))),(9,(.c (.ref 2 8 0 0))),(6,(.c (.ref 1 3 0 0))),(5,(I v31)),(4,(B right3)),(3,(B (large||(decide (2000<(x_.State.length:Int)))))),(1,(.c (.ref 0 2 0 0)))]),(upd (upd (upd e0 0 (some (.cells 2 [(e_TJTrail t_)]))) 1 (some (.cells 3 [(e_TJEntry x_)]))) 2 (some (.cells 8 [[.str r_1.1.Scheme,.str r_1.1.Host,cI r_1.1.Port,.ro false 1 (r_1.1.Path.map eStr),.str r_1.1.Query,cB r_1.1.Asks,.str r_1.1.Fragment,cB r_1.1.Points]]))),3⟩→R_ s
abbrev Z7e (large:Bool) (x_:TJEntry) (t_:TJTrail) (v31:Int) (F_:Bool→Option Int) (o:Int) (R_:St→Prop):Prop:=∀(right4:Bool),F_ right4=some o→∀ s,Weak 0 s ⟨(ue [(31,(I v31)),(30,(I (t_.Entries.length:Int))),(29,(.c (.ro false 3 (t_.Entries.map e_TJEntry)))),(4,(B right4)),(3,(B (large||(decide (2000<(x_.State.length:Int)))))),(1,(.c (.ref 0 2 0 0)))]),(upd e0 0 (some (.cells 2 [(e_TJTrail t_)]))),1⟩→R_ s
noncomputable def Z3p (v83:Int) (large:Bool) (x_:TJEntry) (v31:Int) (t_:TJTrail) (r_2:(List TJEntry)) (r_1:(TJUrl×Int)) (self:Bool→Int→Option Int) (K2_:Bool→Option Int) (right5:Bool):Option Int :=
 self right5 (wi (v83+1))
theorem Zb5 {mL:Int}{Q:AExit→St→Prop}{v83:Int}{large:Bool}{x_:TJEntry}{v31:Int}{t_:TJTrail}{r_2:(List TJEntry)}{r_1:(TJUrl×Int)}{self:Bool→Int→Option Int}{K2_:Bool→Option Int}{right5:Bool}{o:Int}(h:Z3p v83 large x_ v31 t_ r_2 r_1 self K2_ right5=some o)
  (hself:Z7d large x_ v31 t_ r_2 r_1 self o (Q .normal))
  (hK2:Z7e large x_ t_ v31 K2_ o (Q (.exit 2)))
  (hr:∀ s,Ends a11.results 0 (Z2t o) .ret s→Q .ret s) :
  Sv Tryz.prog (GG mL) 0 a11_c2 Q ⟨(ue [(83,(I v83)),(82,(I (r_2.length:Int))),(81,(.c (.ro false 3 (r_2.map e_TJEntry)))),(31,(I v31)),(30,(I (t_.Entries.length:Int))),(29,(.c (.ro false 3 (t_.Entries.map e_TJEntry)))),(9,(.c (.ref 2 8 0 0))),(6,(.c (.ref 1 3 0 0))),(5,(I v31)),(4,(B right5)),(3,(B (large||(decide (2000<(x_.State.length:Int)))))),(1,(.c (.ref 0 2 0 0)))]),(upd (upd (upd e0 0 (some (.cells 2 [(e_TJTrail t_)]))) 1 (some (.cells 3 [(e_TJEntry x_)]))) 2 (some (.cells 8 [[.str r_1.1.Scheme,.str r_1.1.Host,cI r_1.1.Port,.ro false 1 (r_1.1.Path.map eStr),.str r_1.1.Query,cB r_1.1.Asks,.str r_1.1.Fragment,cB r_1.1.Points]]))),3⟩:=by
 unfold Z3p at h
 refine srg<|un1 (v:=(I (wi (v83+1)))) rfl<|un1 rfl<|dnil ?_
 exact hself right5 (wi (v83+1)) h _ (wcn [0,1,2] rfl (.cf rfl rfl (.cf rfl rfl (.cf rfl rfl (.cf rfl rfl (.cf rfl rfl (.cf rfl rfl (.cr rfl rfl rfl (.cr rfl rfl rfl (.cf rfl rfl (.cf rfl rfl (.cf rfl rfl (.cr rfl rfl rfl .nil)))))))))))) (.box (by decide) rfl (blkAs_cells (.sm rfl (.sm rfl (.sm rfl (.sm rfl (.sm rfl (.sm rfl (.sm rfl (.sm rfl .nil))))))))) (.box (by decide) rfl (blkAs_cells (.sm rfl (.sm rfl (.sm rfl .nil)))) (.box (by decide) rfl (blkAs_cells (.sm rfl (.sm rfl .nil))) .nil))))
abbrev Zfz (large:Bool) (x_:TJEntry) (v31:Int) (t_:TJTrail) (r_2:(List TJEntry)) (v83:Int) (r_1:(TJUrl×Int)) (F_:Bool→Option Int) (o:Int) (R_:St→Prop):Prop:=∀(right8:Bool),F_ right8=some o→∀ s,Weak 0 s ⟨(ue [(83,(I v83)),(82,(I (r_2.length:Int))),(81,(.c (.ro false 3 (r_2.map e_TJEntry)))),(31,(I v31)),(30,(I (t_.Entries.length:Int))),(29,(.c (.ro false 3 (t_.Entries.map e_TJEntry)))),(9,(.c (.ref 2 8 0 0))),(6,(.c (.ref 1 3 0 0))),(5,(I v31)),(4,(B right8)),(3,(B (large||(decide (2000<(x_.State.length:Int)))))),(1,(.c (.ref 0 2 0 0)))]),(upd (upd (upd e0 0 (some (.cells 2 [(e_TJTrail t_)]))) 1 (some (.cells 3 [(e_TJEntry x_)]))) 2 (some (.cells 8 [[.str r_1.1.Scheme,.str r_1.1.Host,cI r_1.1.Port,.ro false 1 (r_1.1.Path.map eStr),.str r_1.1.Query,cB r_1.1.Asks,.str r_1.1.Fragment,cB r_1.1.Points]]))),3⟩→R_ s
abbrev Zb6 (large:Bool) (x_:TJEntry) (v31:Int) (t_:TJTrail) (r_2:(List TJEntry)) (v83:Int) (r_4:(List TJEntry)) (r_1:(TJUrl×Int)) (F_:Nat→Bool→Int→Option Int) (o:Int):Nat→St→Prop:=fun k s=>∃(right7:Bool),∃(v113:Int),F_ k right7 v113=some o∧s=⟨(ue [(113,(I v113)),(112,(I (r_4.length:Int))),(111,(.c (.ro false 3 (r_4.map e_TJEntry)))),(83,(I v83)),(82,(I (r_2.length:Int))),(81,(.c (.ro false 3 (r_2.map e_TJEntry)))),(31,(I v31)),(30,(I (t_.Entries.length:Int))),(29,(.c (.ro false 3 (t_.Entries.map e_TJEntry)))),(9,(.c (.ref 2 8 0 0))),(6,(.c (.ref 1 3 0 0))),(5,(I v31)),(4,(B right7)),(3,(B (large||(decide (2000<(x_.State.length:Int)))))),(1,(.c (.ref 0 2 0 0)))]),(upd (upd (upd e0 0 (some (.cells 2 [(e_TJTrail t_)]))) 1 (some (.cells 3 [(e_TJEntry x_)]))) 2 (some (.cells 8 [[.str r_1.1.Scheme,.str r_1.1.Host,cI r_1.1.Port,.ro false 1 (r_1.1.Path.map eStr),.str r_1.1.Query,cB r_1.1.Asks,.str r_1.1.Fragment,cB r_1.1.Points]]))),3⟩
abbrev Zg0 (large:Bool) (x_:TJEntry) (v31:Int) (t_:TJTrail) (r_2:(List TJEntry)) (v83:Int) (r_4:(List TJEntry)) (r_1:(TJUrl×Int)) (F_:Bool→Int→Option Int) (o:Int) (R_:St→Prop):Prop:=∀(right7:Bool) (v113:Int),F_ right7 v113=some o→∀ s,Weak 0 s ⟨(ue [(113,(I v113)),(112,(I (r_4.length:Int))),(111,(.c (.ro false 3 (r_4.map e_TJEntry)))),(83,(I v83)),(82,(I (r_2.length:Int))),(81,(.c (.ro false 3 (r_2.map e_TJEntry)))),(31,(I v31)),(30,(I (t_.Entries.length:Int))),(29,(.c (.ro false 3 (t_.Entries.map e_TJEntry)))),(9,(.c (.ref 2 8 0 0))),(6,(.c (.ref 1 3 0 0))),(5,(I v31)),(4,(B right7)),(3,(B (large||(decide (2000<(x_.State.length:Int)))))),(1,(.c (.ref 0 2 0 0)))]),(upd (upd (upd e0 0 (some (.cells 2 [(e_TJTrail t_)]))) 1 (some (.cells 3 [(e_TJEntry x_)]))) 2 (some (.cells 8 [[.str r_1.1.Scheme,.str r_1.1.Host,cI r_1.1.Port,.ro false 1 (r_1.1.Path.map eStr),.str r_1.1.Query,cB r_1.1.Asks,.str r_1.1.Fragment,cB r_1.1.Points]]))),3⟩→R_ s
noncomputable def Z1j (r_4:(List TJEntry)) (x_:TJEntry) (large:Bool) (v31:Int) (t_:TJTrail) (r_2:(List TJEntry)) (v83:Int) (r_1:(TJUrl×Int)) (K4_:Bool→Option Int):Nat→Bool→Int→Option Int
 | 0,_,_=>none
 | k+1,right7,v113 =>
  if decide (v113<(r_4.length:Int)) then
   (at? r_4 v113).bind fun x_2 =>
   (Z1j r_4 x_ large v31 t_ r_2 v83 r_1 K4_ k) (right7&&(decide (x_2.Doc=x_.Doc))) (wi (v113+1))
  else
   K4_ right7
theorem Zg1 {mL:Int}{Q:AExit→St→Prop}{r_4:(List TJEntry)}{x_:TJEntry}{large:Bool}{v31:Int}{t_:TJTrail}{r_2:(List TJEntry)}{v83:Int}{r_1:(TJUrl×Int)}{K4_:Bool→Option Int}{k:Nat}{right7:Bool}{v113:Int}{o:Int}(h:Z1j r_4 x_ large v31 t_ r_2 v83 r_1 K4_ k right7 v113=some o)
  (hK4:Zfz large x_ v31 t_ r_2 v83 r_1 K4_ o (Q (.exit 4)))
  (hr:∀ s,Ends a11.results 0 (Z2t o) .ret s→Q .ret s) :
  Sv Tryz.prog (GG mL) 0 (.loop a11_c1) Q ⟨(ue [(113,(I v113)),(112,(I (r_4.length:Int))),(111,(.c (.ro false 3 (r_4.map e_TJEntry)))),(83,(I v83)),(82,(I (r_2.length:Int))),(81,(.c (.ro false 3 (r_2.map e_TJEntry)))),(31,(I v31)),(30,(I (t_.Entries.length:Int))),(29,(.c (.ro false 3 (t_.Entries.map e_TJEntry)))),(9,(.c (.ref 2 8 0 0))),(6,(.c (.ref 1 3 0 0))),(5,(I v31)),(4,(B right7)),(3,(B (large||(decide (2000<(x_.State.length:Int)))))),(1,(.c (.ref 0 2 0 0)))]),(upd (upd (upd e0 0 (some (.cells 2 [(e_TJTrail t_)]))) 1 (some (.cells 3 [(e_TJEntry x_)]))) 2 (some (.cells 8 [[.str r_1.1.Scheme,.str r_1.1.Host,cI r_1.1.Port,.ro false 1 (r_1.1.Path.map eStr),.str r_1.1.Query,cB r_1.1.Asks,.str r_1.1.Fragment,cB r_1.1.Points]]))),3⟩:=by
 refine Sv.loop (I:=Zb6 large x_ v31 t_ r_2 v83 r_4 r_1 (Z1j r_4 x_ large v31 t_ r_2 v83 r_1 K4_) o) (fun k s hI=>?_) ⟨right7,v113,h,rfl⟩
 clear h
 clear v113 right7
 obtain ⟨right7,v113,h,rfl⟩:=hI
 cases k with
 | zero=>cases h
 | succ k =>
 rw [Z1j] at h
 have hself:Zg0 large x_ v31 t_ r_2 v83 r_4 r_1 (Z1j r_4 x_ large v31 t_ r_2 v83 r_1 K4_ k) o (rnd 0 (Zb6 large x_ v31 t_ r_2 v83 r_4 r_1 (Z1j r_4 x_ large v31 t_ r_2 v83 r_1 K4_) o) k Q):=fun right7 v113 h s hw=>⟨_,k,hw,Nat.lt_succ_self k,right7,v113,h,rfl⟩
 refine ssr<|un1 (v:=(B (decide (v113<(r_4.length:Int))))) rfl<|dnil<|Sv.seq ?_
 refine Sv.cnd rfl h (fun h=>?_) fun h=>?_
 ·refine Sv.skip<|Sv.seq<|Sv.block<|ssr ?_
  obtain ⟨x_2,hx5,h⟩:=bnd h
  refine un1 (v:=(.c (.rop (e_TJEntry x_2)))) (s_iaddr (e:=e_TJEntry) (xs:=r_4) rfl rfl hx5)<|un1 (v:=(.agg (e_TJEntry x_2))) rfl<|un<|a2v (v:=(.c (.ref 3 3 0 0))) (h' := upd _ 3 (some (.cells 3 [[.str [],.str [],cI 0]]))) (n' := 4) rfl rfl hcs<|un<|a2n (h' := upd _ 3 (some (.cells 3 [(e_TJEntry x_2)]))) (n' := 4) rfl rfl hcs<|dnil<|srg<|un1 rfl<|un1 rfl ?_
  refine gjoin 6 (d:=124) (v:=(B (right7&&(decide (x_2.Doc=x_.Doc))))) (fun X hX=>?_) ?_
  ·refine split2 (fun hc11=>?_) (fun hc11=>?_)
   ·refine gt rfl<|a1 (v:=(.c (.ref 3 3 0 2))) rfl<|gt rfl<|a1 (v:=(I x_2.Doc)) rfl<|gt rfl<|a1 (v:=(.c (.ref 1 3 0 2))) rfl<|gt rfl<|a1 (v:=(I x_.Doc)) rfl<|gt rfl<|a1 (v:=(B (decide (x_2.Doc=x_.Doc)))) rfl<|un1 (v:=(B (decide (x_2.Doc=x_.Doc)))) rfl<|dnil ?_
    exact hX _ (.putEq (by rw [hc11]; rfl) (by repeat (first | exact .putEq (by rw [hc11]) (.refl _) | refine .skp ?_ rfl)))
   ·repeat (first | refine gu rfl ?_ | refine gs rfl rfl ?_)
    refine un1 (v:=(B false)) rfl<|dnil ?_
    exact hX _ (.putEq (by rw [hc11]; rfl) (by repeat (first | exact .putEq (by rw [hc11]) (.refl _) | refine .skp ?_ rfl)))
  refine un1 rfl<|dnil<|srg<|un1 (v:=(I (wi (v113+1)))) rfl<|un1 rfl<|dnil ?_
  exact hself (right7&&(decide (x_2.Doc=x_.Doc))) (wi (v113+1)) h _ (wcn [0,1,2] rfl (.cf rfl rfl (.cf rfl rfl (.cf rfl rfl (.cf rfl rfl (.cf rfl rfl (.cf rfl rfl (.cf rfl rfl (.cf rfl rfl (.cf rfl rfl (.cr rfl rfl rfl (.cr rfl rfl rfl (.cf rfl rfl (.cf rfl rfl (.cf rfl rfl (.cr rfl rfl rfl .nil))))))))))))))) (.box (by decide) rfl (blkAs_cells (.sm rfl (.sm rfl (.sm rfl (.sm rfl (.sm rfl (.sm rfl (.sm rfl (.sm rfl .nil))))))))) (.box (by decide) rfl (blkAs_cells (.sm rfl (.sm rfl (.sm rfl .nil)))) (.box (by decide) rfl (blkAs_cells (.sm rfl (.sm rfl .nil))) .nil))))
 ·refine Sv.exit ?_
  exact hK4 right7 h _ (wcn [0,1,2] rfl (.cf rfl rfl (.cf rfl rfl (.cf rfl rfl (.cf rfl rfl (.cf rfl rfl (.cf rfl rfl (.cr rfl rfl rfl (.cr rfl rfl rfl (.cf rfl rfl (.cf rfl rfl (.cf rfl rfl (.cr rfl rfl rfl .nil)))))))))))) (.box (by decide) rfl (blkAs_cells (.sm rfl (.sm rfl (.sm rfl (.sm rfl (.sm rfl (.sm rfl (.sm rfl (.sm rfl .nil))))))))) (.box (by decide) rfl (blkAs_cells (.sm rfl (.sm rfl (.sm rfl .nil)))) (.box (by decide) rfl (blkAs_cells (.sm rfl (.sm rfl .nil))) .nil))))
abbrev Zg2 (mL:Int) (Q:AExit→St→Prop):AExit→St→Prop:=AThen (Sv Tryz.prog (GG mL) 0 a11_c2 Q) Q
abbrev Zg3 (mL:Int) (Q:AExit→St→Prop):AExit→St→Prop:=ABlock 3 (Zg2 mL Q)
noncomputable def Z24 (t_:TJTrail) (v83:Int) (v31:Int) (x_:TJEntry) (large:Bool) (r_2:(List TJEntry)) (r_1:(TJUrl×Int)) (self:Bool→Int→Option Int) (K2_:Bool→Option Int) (right6:Bool):Option Int :=
 (sub? t_.Entries v83 v31).bind fun r_4 =>
 lim fun kk=>Z1j r_4 x_ large v31 t_ r_2 v83 r_1 (fun (right8:Bool) => 
   Z3p v83 large x_ v31 t_ r_2 r_1 self K2_ right8) kk right6 0
theorem Zb7 {mL:Int}{Q:AExit→St→Prop}{t_:TJTrail}{v83:Int}{v31:Int}{x_:TJEntry}{large:Bool}{r_2:(List TJEntry)}{r_1:(TJUrl×Int)}{self:Bool→Int→Option Int}{K2_:Bool→Option Int}{right6:Bool}{o:Int}(h:Z24 t_ v83 v31 x_ large r_2 r_1 self K2_ right6=some o)
  (hself:Z7d large x_ v31 t_ r_2 r_1 self o (Q .normal))
  (hK2:Z7e large x_ t_ v31 K2_ o (Q (.exit 2)))
  (hr:∀ s,Ends a11.results 0 (Z2t o) .ret s→Q .ret s) :
  Sv Tryz.prog (GG mL) 0 a11_c0 (Zg3 mL Q) ⟨(ue [(83,(I v83)),(82,(I (r_2.length:Int))),(81,(.c (.ro false 3 (r_2.map e_TJEntry)))),(31,(I v31)),(30,(I (t_.Entries.length:Int))),(29,(.c (.ro false 3 (t_.Entries.map e_TJEntry)))),(11,(I v83)),(9,(.c (.ref 2 8 0 0))),(6,(.c (.ref 1 3 0 0))),(5,(I v31)),(4,(B right6)),(3,(B (large||(decide (2000<(x_.State.length:Int)))))),(1,(.c (.ref 0 2 0 0)))]),(upd (upd (upd e0 0 (some (.cells 2 [(e_TJTrail t_)]))) 1 (some (.cells 3 [(e_TJEntry x_)]))) 2 (some (.cells 8 [[.str r_1.1.Scheme,.str r_1.1.Host,cI r_1.1.Port,.ro false 1 (r_1.1.Path.map eStr),.str r_1.1.Query,cB r_1.1.Asks,.str r_1.1.Fragment,cB r_1.1.Points]]))),3⟩:=by
 unfold Z24 at h
 refine ssr<|un1 (v:=(.c (.ref 0 2 0 0))) rfl<|un1 (v:=(.c (.ro false 3 (t_.Entries.map e_TJEntry)))) rfl<|un1 rfl<|un1 rfl ?_
 obtain ⟨r_4,hx4,h⟩:=bnd h
 refine un1 (v:=(.c (.ro false 3 (r_4.map e_TJEntry)))) (s_slSl (e:=e_TJEntry) rfl rfl rfl hx4)<|un1 (v:=(I (r_4.length:Int))) (s_len (e:=e_TJEntry) (xs:=r_4) rfl)<|un1 rfl<|dnil<|Sv.block ?_
 obtain ⟨kk,h⟩:=lim_some h
 refine Sv.weak (wcn [0,1,2] rfl (.cf rfl rfl (.cf rfl rfl (.cf rfl rfl (.cf rfl rfl (.cf rfl rfl (.cf rfl rfl (.cf rfl rfl (.cf rfl rfl (.cf rfl rfl (.cr rfl rfl rfl (.cr rfl rfl rfl (.cf rfl rfl (.cf rfl rfl (.cf rfl rfl (.cr rfl rfl rfl .nil))))))))))))))) (.box (by decide) rfl (blkAs_cells (.sm rfl (.sm rfl (.sm rfl (.sm rfl (.sm rfl (.sm rfl (.sm rfl (.sm rfl .nil))))))))) (.box (by decide) rfl (blkAs_cells (.sm rfl (.sm rfl (.sm rfl .nil)))) (.box (by decide) rfl (blkAs_cells (.sm rfl (.sm rfl .nil))) .nil)))) (Zg1 h ?_ hr)
 ·intro right8 h _ hw1
  exact Sv.weak (hw1.trans (wcn [0,1,2] rfl (.cf rfl rfl (.cf rfl rfl (.cf rfl rfl (.cf rfl rfl (.cf rfl rfl (.cf rfl rfl (.cr rfl rfl rfl (.cr rfl rfl rfl (.cf rfl rfl (.cf rfl rfl (.cf rfl rfl (.cr rfl rfl rfl .nil)))))))))))) (.box (by decide) rfl (blkAs_cells (.sm rfl (.sm rfl (.sm rfl (.sm rfl (.sm rfl (.sm rfl (.sm rfl (.sm rfl .nil))))))))) (.box (by decide) rfl (blkAs_cells (.sm rfl (.sm rfl (.sm rfl .nil)))) (.box (by decide) rfl (blkAs_cells (.sm rfl (.sm rfl .nil))) .nil))))) (Zb5 h hself hK2 hr)
abbrev Zb8 (large:Bool) (x_:TJEntry) (v31:Int) (t_:TJTrail) (r_2:(List TJEntry)) (r_1:(TJUrl×Int)) (F_:Nat→Bool→Int→Option Int) (o:Int):Nat→St→Prop:=fun k s=>∃(right3:Bool),∃(v83:Int),F_ k right3 v83=some o∧s=⟨(ue [(83,(I v83)),(82,(I (r_2.length:Int))),(81,(.c (.ro false 3 (r_2.map e_TJEntry)))),(31,(I v31)),(30,(I (t_.Entries.length:Int))),(29,(.c (.ro false 3 (t_.Entries.map e_TJEntry)))),(9,(.c (.ref 2 8 0 0))),(6,(.c (.ref 1 3 0 0))),(5,(I v31)),(4,(B right3)),(3,(B (large||(decide (2000<(x_.State.length:Int)))))),(1,(.c (.ref 0 2 0 0)))]),(upd (upd (upd e0 0 (some (.cells 2 [(e_TJTrail t_)]))) 1 (some (.cells 3 [(e_TJEntry x_)]))) 2 (some (.cells 8 [[.str r_1.1.Scheme,.str r_1.1.Host,cI r_1.1.Port,.ro false 1 (r_1.1.Path.map eStr),.str r_1.1.Query,cB r_1.1.Asks,.str r_1.1.Fragment,cB r_1.1.Points]]))),3⟩
noncomputable def Za (r_2:(List TJEntry)) (x_:TJEntry) (large:Bool) (v31:Int) (t_:TJTrail) (r_1:(TJUrl×Int)) (K2_:Bool→Option Int):Nat→Bool→Int→Option Int
 | 0,_,_=>none
 | k+1,right3,v83 =>
  if decide (v83<(r_2.length:Int)) then
   (at? r_2 v83).bind fun x_1 =>
   if (!decide (x_1.Doc=x_.Doc)) then
    Z3p v83 large x_ v31 t_ r_2 r_1 (Za r_2 x_ large v31 t_ r_1 K2_ k) K2_ right3
   else
    (Zq x_1.Url).bind fun r_3 =>
    if right3 then
     (Zc r_1.1).bind fun r_5 =>
     (Zc r_3.1).bind fun r_6 =>
     Z24 t_ v83 v31 x_ large r_2 r_1 (Za r_2 x_ large v31 t_ r_1 K2_ k) K2_ (decide (r_5=r_6))
    else
     Z24 t_ v83 v31 x_ large r_2 r_1 (Za r_2 x_ large v31 t_ r_1 K2_ k) K2_ false
  else
   K2_ right3
theorem Zg4 {mL:Int}{Q:AExit→St→Prop}{r_2:(List TJEntry)}{x_:TJEntry}{large:Bool}{v31:Int}{t_:TJTrail}{r_1:(TJUrl×Int)}{K2_:Bool→Option Int}{k:Nat}{right3:Bool}{v83:Int}{o:Int}(h:Za r_2 x_ large v31 t_ r_1 K2_ k right3 v83=some o)
  (hK2:Z7e large x_ t_ v31 K2_ o (Q (.exit 2)))
  (hr:∀ s,Ends a11.results 0 (Z2t o) .ret s→Q .ret s) :
  Sv Tryz.prog (GG mL) 0 (.loop a11_c3) Q ⟨(ue [(83,(I v83)),(82,(I (r_2.length:Int))),(81,(.c (.ro false 3 (r_2.map e_TJEntry)))),(31,(I v31)),(30,(I (t_.Entries.length:Int))),(29,(.c (.ro false 3 (t_.Entries.map e_TJEntry)))),(9,(.c (.ref 2 8 0 0))),(6,(.c (.ref 1 3 0 0))),(5,(I v31)),(4,(B right3)),(3,(B (large||(decide (2000<(x_.State.length:Int)))))),(1,(.c (.ref 0 2 0 0)))]),(upd (upd (upd e0 0 (some (.cells 2 [(e_TJTrail t_)]))) 1 (some (.cells 3 [(e_TJEntry x_)]))) 2 (some (.cells 8 [[.str r_1.1.Scheme,.str r_1.1.Host,cI r_1.1.Port,.ro false 1 (r_1.1.Path.map eStr),.str r_1.1.Query,cB r_1.1.Asks,.str r_1.1.Fragment,cB r_1.1.Points]]))),3⟩:=by
 refine Sv.loop (I:=Zb8 large x_ v31 t_ r_2 r_1 (Za r_2 x_ large v31 t_ r_1 K2_) o) (fun k s hI=>?_) ⟨right3,v83,h,rfl⟩
 clear h
 clear v83 right3
 obtain ⟨right3,v83,h,rfl⟩:=hI
 cases k with
 | zero=>cases h
 | succ k =>
 rw [Za] at h
 have hself:Z7d large x_ v31 t_ r_2 r_1 (Za r_2 x_ large v31 t_ r_1 K2_ k) o (rnd 0 (Zb8 large x_ v31 t_ r_2 r_1 (Za r_2 x_ large v31 t_ r_1 K2_) o) k Q):=fun right3 v83 h s hw=>⟨_,k,hw,Nat.lt_succ_self k,right3,v83,h,rfl⟩
 refine ssr<|un1 (v:=(B (decide (v83<(r_2.length:Int))))) rfl<|dnil<|Sv.seq ?_
 refine Sv.cnd rfl h (fun h=>?_) fun h=>?_
 ·refine Sv.skip<|Sv.seq<|Sv.block<|ssr<|un1 rfl ?_
  obtain ⟨x_1,hx3,h⟩:=bnd h
  refine un1 (v:=(.c (.rop (e_TJEntry x_1)))) (s_iaddr (e:=e_TJEntry) (xs:=r_2) rfl rfl hx3)<|un1 (v:=(.agg (e_TJEntry x_1))) rfl<|un<|a2v (v:=(.c (.ref 3 3 0 0))) (h' := upd _ 3 (some (.cells 3 [[.str [],.str [],cI 0]]))) (n' := 4) rfl rfl hcs<|un1 rfl<|un<|a2n (h' := upd _ 3 (some (.cells 3 [(e_TJEntry x_1)]))) (n' := 4) rfl rfl hcs<|dnil<|Sv.seq<|ssr<|un1 (v:=(.c (.ref 3 3 0 2))) rfl<|un1 (v:=(I x_1.Doc)) rfl<|un1 (v:=(.c (.ref 1 3 0 2))) rfl<|un1 (v:=(I x_.Doc)) rfl<|un1 (v:=(B (!decide (x_1.Doc=x_.Doc)))) rfl<|dnil ?_
  refine Sv.cnd rfl h (fun h=>?_) fun h=>?_
  ·refine Sv.exit ?_
   exact Sv.weak (wcn [0,1,2] rfl (.cf rfl rfl (.cf rfl rfl (.cf rfl rfl (.cf rfl rfl (.cf rfl rfl (.cf rfl rfl (.cr rfl rfl rfl (.cr rfl rfl rfl (.cf rfl rfl (.cf rfl rfl (.cf rfl rfl (.cr rfl rfl rfl .nil)))))))))))) (.box (by decide) rfl (blkAs_cells (.sm rfl (.sm rfl (.sm rfl (.sm rfl (.sm rfl (.sm rfl (.sm rfl (.sm rfl .nil))))))))) (.box (by decide) rfl (blkAs_cells (.sm rfl (.sm rfl (.sm rfl .nil)))) (.box (by decide) rfl (blkAs_cells (.sm rfl (.sm rfl .nil))) .nil)))) (Zb5 h hself hK2 hr)
  ·refine Sv.skip<|ssr<|un1 (v:=(.c (.ref 3 3 0 0))) rfl<|un1 (v:=(S x_1.Url)) rfl ?_
   obtain ⟨r_3,hr3,h⟩:=bnd h
   refine un<|ac_pure (Z2s hr3) rfl rfl rfl<|un1 rfl<|un1 (v:=(.agg [.str r_3.1.Scheme,.str r_3.1.Host,cI r_3.1.Port,.ro false 1 (r_3.1.Path.map eStr),.str r_3.1.Query,cB r_3.1.Asks,.str r_3.1.Fragment,cB r_3.1.Points])) rfl<|un1 (v:=(I r_3.2)) rfl<|un<|a2v (v:=(.c (.ref 4 8 0 0))) (h' := upd _ 4 (some (.cells 8 [[.str [],.str [],cI 0,.ro true 1 [],.str [],cB false,.str [],cB false]]))) (n' := 5) rfl rfl hcs<|un<|a2n (h' := upd _ 4 (some (.cells 8 [[.str r_3.1.Scheme,.str r_3.1.Host,cI r_3.1.Port,.ro false 1 (r_3.1.Path.map eStr),.str r_3.1.Query,cB r_3.1.Asks,.str r_3.1.Fragment,cB r_3.1.Points]]))) (n' := 5) rfl rfl hcs<|un1 rfl<|dnil<|Sv.seq<|Sv.drawn<|un1 rfl<|un1 rfl ?_
   refine spl h (fun h=>?_) fun h=>?_
   ·refine gt rfl<|a1 (v:=(.agg [.str r_1.1.Scheme,.str r_1.1.Host,cI r_1.1.Port,.ro false 1 (r_1.1.Path.map eStr),.str r_1.1.Query,cB r_1.1.Asks,.str r_1.1.Fragment,cB r_1.1.Points])) rfl<|gt rfl<|a1 (v:=(.agg [.str r_3.1.Scheme,.str r_3.1.Host,cI r_3.1.Port,.ro false 1 (r_3.1.Path.map eStr),.str r_3.1.Query,cB r_3.1.Asks,.str r_3.1.Fragment,cB r_3.1.Points])) rfl ?_
    obtain ⟨r_5,hr4,h⟩:=bnd h
    refine gt rfl<|ac_pure (Z54 hr4) rfl rfl rfl ?_
    obtain ⟨r_6,hr5,h⟩:=bnd h
    refine gt rfl<|ac_pure (Z54 hr5) rfl rfl rfl<|gt rfl<|a1 (v:=(B (decide (r_5=r_6)))) rfl<|un1 (v:=(B (decide (r_5=r_6)))) rfl<|un1 rfl<|dnil ?_
    exact Sv.weak (wcn [0,1,2] rfl (.cf rfl rfl (.cf rfl rfl (.cf rfl rfl (.cf rfl rfl (.cf rfl rfl (.cf rfl rfl (.cf rfl rfl (.cr rfl rfl rfl (.cr rfl rfl rfl (.cf rfl rfl (.cf rfl rfl (.cf rfl rfl (.cr rfl rfl rfl .nil))))))))))))) (.box (by decide) rfl (blkAs_cells (.sm rfl (.sm rfl (.sm rfl (.sm rfl (.sm rfl (.sm rfl (.sm rfl (.sm rfl .nil))))))))) (.box (by decide) rfl (blkAs_cells (.sm rfl (.sm rfl (.sm rfl .nil)))) (.box (by decide) rfl (blkAs_cells (.sm rfl (.sm rfl .nil))) .nil)))) (Zb7 h hself hK2 hr)
   ·repeat (first | refine gu rfl ?_ | refine gs rfl rfl ?_)
    refine un1 (v:=(B false)) rfl<|un1 rfl<|dnil ?_
    exact Sv.weak (wcn [0,1,2] rfl (.cf rfl rfl (.cf rfl rfl (.cf rfl rfl (.cf rfl rfl (.cf rfl rfl (.cf rfl rfl (.cf rfl rfl (.cr rfl rfl rfl (.cr rfl rfl rfl (.cf rfl rfl (.cf rfl rfl (.cf rfl rfl (.cr rfl rfl rfl .nil))))))))))))) (.box (by decide) rfl (blkAs_cells (.sm rfl (.sm rfl (.sm rfl (.sm rfl (.sm rfl (.sm rfl (.sm rfl (.sm rfl .nil))))))))) (.box (by decide) rfl (blkAs_cells (.sm rfl (.sm rfl (.sm rfl .nil)))) (.box (by decide) rfl (blkAs_cells (.sm rfl (.sm rfl .nil))) .nil)))) (Zb7 h hself hK2 hr)
 ·refine Sv.exit ?_
  exact hK2 right3 h _ (wcn [0] rfl (.cf rfl rfl (.cf rfl rfl (.cf rfl rfl (.cf rfl rfl (.cf rfl rfl (.cr rfl rfl rfl .nil)))))) (.box (by decide) rfl (blkAs_cells (.sm rfl (.sm rfl .nil))) .nil))
abbrev Zb9 (t_:TJTrail) (F_:Nat→Bool→Bool→Int→Option Int) (o:Int):Nat→St→Prop:=fun k s=>∃(large:Bool),∃(right:Bool),∃(v31:Int),F_ k large right v31=some o∧s=⟨(ue [(31,(I v31)),(30,(I (t_.Entries.length:Int))),(29,(.c (.ro false 3 (t_.Entries.map e_TJEntry)))),(4,(B right)),(3,(B large)),(1,(.c (.ref 0 2 0 0)))]),(upd e0 0 (some (.cells 2 [(e_TJTrail t_)]))),1⟩
noncomputable def Zb (t_:TJTrail) (K0_:Bool→Bool→Option Int):Nat→Bool→Bool→Int→Option Int
 | 0,_,_,_=>none
 | k+1,large,right,v31 =>
  if decide (v31<(t_.Entries.length:Int)) then
   (at? t_.Entries v31).bind fun x_ =>
   (Z23 x_.Url x_.Url).bind fun r_ =>
   letIn (!(((right&&(decide (r_.2=0)))&&(decide (r_.1=x_.Url)))&&(Z1 x_.Doc 0 1000000))) fun v68:Bool =>
   if (v68||(large||(decide (2000<(x_.State.length:Int))))) then
    Z3o v31 t_ (Zb t_ K0_ k) K0_ (large||(decide (2000<(x_.State.length:Int)))) (((right&&(decide (r_.2=0)))&&(decide (r_.1=x_.Url)))&&(Z1 x_.Doc 0 1000000))
   else
    (Zq x_.Url).bind fun r_1 =>
    (sub? t_.Entries 0 v31).bind fun r_2 =>
    lim fun kk1=>Za r_2 x_ large v31 t_ r_1 (fun (right4:Bool) => 
      Z3o v31 t_ (Zb t_ K0_ k) K0_ (large||(decide (2000<(x_.State.length:Int)))) right4) kk1 (((right&&(decide (r_.2=0)))&&(decide (r_.1=x_.Url)))&&(Z1 x_.Doc 0 1000000)) 0
  else
   K0_ large right
theorem Zg5 {mL:Int}{Q:AExit→St→Prop}{t_:TJTrail}{K0_:Bool→Bool→Option Int}{k:Nat}{large:Bool}{right:Bool}{v31:Int}{o:Int}(h:Zb t_ K0_ k large right v31=some o)
  (hK0:Zb3 K0_ o (Q (.exit 0)))
  (hr:∀ s,Ends a11.results 0 (Z2t o) .ret s→Q .ret s) :
  Sv Tryz.prog (GG mL) 0 (.loop a11_c5) Q ⟨(ue [(31,(I v31)),(30,(I (t_.Entries.length:Int))),(29,(.c (.ro false 3 (t_.Entries.map e_TJEntry)))),(4,(B right)),(3,(B large)),(1,(.c (.ref 0 2 0 0)))]),(upd e0 0 (some (.cells 2 [(e_TJTrail t_)]))),1⟩:=by
 refine Sv.loop (I:=Zb9 t_ (Zb t_ K0_) o) (fun k s hI=>?_) ⟨large,right,v31,h,rfl⟩
 clear h
 clear v31 right large
 obtain ⟨large,right,v31,h,rfl⟩:=hI
 cases k with
 | zero=>cases h
 | succ k =>
 rw [Zb] at h
 have hself:Zb2 t_ (Zb t_ K0_ k) o (rnd 0 (Zb9 t_ (Zb t_ K0_) o) k Q):=fun large right v31 h s hw=>⟨_,k,hw,Nat.lt_succ_self k,large,right,v31,h,rfl⟩
 refine ssr<|un1 (v:=(B (decide (v31<(t_.Entries.length:Int))))) rfl<|dnil<|Sv.seq ?_
 refine Sv.cnd rfl h (fun h=>?_) fun h=>?_
 ·refine Sv.skip<|Sv.seq<|Sv.block<|ssr<|un1 rfl ?_
  obtain ⟨x_,hx1,h⟩:=bnd h
  refine un1 (v:=(.c (.rop (e_TJEntry x_)))) (s_iaddr (e:=e_TJEntry) (xs:=t_.Entries) rfl rfl hx1)<|un1 (v:=(.agg (e_TJEntry x_))) rfl<|un<|a2v (v:=(.c (.ref 1 3 0 0))) (h' := upd _ 1 (some (.cells 3 [[.str [],.str [],cI 0]]))) (n' := 2) rfl rfl hcs<|un1 rfl<|un<|a2n (h' := upd _ 1 (some (.cells 3 [(e_TJEntry x_)]))) (n' := 2) rfl rfl hcs<|dnil<|ssr<|un1 rfl<|un1 rfl ?_
  refine gjoin 5 (d:=42) (v:=(B (large||(decide (2000<(x_.State.length:Int)))))) (fun X hX=>?_) ?_
  ·refine split2 (fun hc2=>?_) (fun hc2=>?_)
   ·refine gs rfl rfl<|gs rfl rfl<|gs rfl rfl<|gs rfl rfl<|un1 (v:=(B true)) rfl<|dnil ?_
    exact hX _ (.putEq (by rw [hc2]; rfl) (.skp (.skp (.skp (.skp (.putEq (by rw [hc2]) (.refl _)) rfl) rfl) rfl) rfl))
   ·refine gt rfl<|a1 (v:=(.c (.ref 1 3 0 1))) rfl<|gt rfl<|a1 (v:=(S x_.State)) rfl<|gt rfl<|a1 (v:=(I (x_.State.length:Int))) rfl<|gt rfl<|a1 (v:=(B (decide (2000<(x_.State.length:Int))))) rfl<|un1 (v:=(B (decide (2000<(x_.State.length:Int))))) rfl<|dnil ?_
    exact hX _ (.putEq (by rw [hc2]; rfl) (.skp (.skp (.skp (.skp (.putEq (by rw [hc2]) (.refl _)) rfl) rfl) rfl) rfl))
  refine un1 rfl<|dnil<|ssr<|un1 (v:=(.c (.ref 1 3 0 0))) rfl<|un1 (v:=(S x_.Url)) rfl<|un1 (v:=(.c (.ref 1 3 0 0))) rfl<|un1 (v:=(S x_.Url)) rfl ?_
  obtain ⟨r_,hr1,h⟩:=bnd h
  refine un<|ac_pure (Z7c hr1) rfl rfl rfl<|un1 rfl<|un1 (v:=(S r_.1)) rfl<|un1 (v:=(I r_.2)) rfl<|un1 rfl<|un1 rfl<|dnil<|ssr<|un1 rfl<|un1 rfl ?_
  refine gjoin 3 (d:=55) (v:=(B (right&&(decide (r_.2=0))))) (fun X hX=>?_) ?_
  ·refine split2 (fun hc3=>?_) (fun hc3=>?_)
   ·refine gt rfl<|a1 rfl<|gt rfl<|a1 (v:=(B (decide (r_.2=0)))) rfl<|un1 (v:=(B (decide (r_.2=0)))) rfl<|dnil ?_
    exact hX _ (.putEq (by rw [hc3]; rfl) (.skp (.skp (.putEq (by rw [hc3]) (.refl _)) rfl) rfl))
   ·refine gs rfl rfl<|gs rfl rfl<|un1 (v:=(B false)) rfl<|dnil ?_
    exact hX _ (.putEq (by rw [hc3]; rfl) (.skp (.skp (.putEq (by rw [hc3]) (.refl _)) rfl) rfl))
  refine un1 rfl ?_
  refine gjoin 5 (d:=61) (v:=(B ((right&&(decide (r_.2=0)))&&(decide (r_.1=x_.Url))))) (fun X hX=>?_) ?_
  ·refine split2 (fun hc4=>?_) (fun hc4=>?_)
   ·refine gt rfl<|a1 rfl<|gt rfl<|a1 (v:=(.c (.ref 1 3 0 0))) rfl<|gt rfl<|a1 (v:=(S x_.Url)) rfl<|gt rfl<|a1 (v:=(B (decide (r_.1=x_.Url)))) rfl<|un1 (v:=(B (decide (r_.1=x_.Url)))) rfl<|dnil ?_
    exact hX _ (.putEq (by rw [hc4]; rfl) (.skp (.skp (.skp (.skp (.putEq (by rw [hc4]) (.refl _)) rfl) rfl) rfl) rfl))
   ·refine gs rfl rfl<|gs rfl rfl<|gs rfl rfl<|gs rfl rfl<|un1 (v:=(B false)) rfl<|dnil ?_
    exact hX _ (.putEq (by rw [hc4]; rfl) (.skp (.skp (.skp (.skp (.putEq (by rw [hc4]) (.refl _)) rfl) rfl) rfl) rfl))
  refine un1 rfl ?_
  refine gjoin 4 (d:=66) (v:=(B (((right&&(decide (r_.2=0)))&&(decide (r_.1=x_.Url)))&&(Z1 x_.Doc 0 1000000)))) (fun X hX=>?_) ?_
  ·refine split2 (fun hc5=>?_) (fun hc5=>?_)
   ·refine gt rfl<|a1 (v:=(.c (.ref 1 3 0 2))) rfl<|gt rfl<|a1 (v:=(I x_.Doc)) rfl<|gt rfl<|ac_pure (Zo (mL:=mL) x_.Doc 0 1000000) rfl rfl rfl<|un1 (v:=(B (Z1 x_.Doc 0 1000000))) rfl<|dnil ?_
    exact hX _ (.putEq (by rw [hc5]; rfl) (.skp (.skp (.skp (.putEq (by rw [hc5]) (.refl _)) rfl) rfl) rfl))
   ·refine gs rfl rfl<|gs rfl rfl<|gs rfl rfl<|un1 (v:=(B false)) rfl<|dnil ?_
    exact hX _ (.putEq (by rw [hc5]; rfl) (.skp (.skp (.skp (.putEq (by rw [hc5]) (.refl _)) rfl) rfl) rfl))
  refine un1 rfl<|dnil<|Sv.seq<|ssr<|un1 rfl ?_
  obtain ⟨v68,hv68⟩:∃ v68:Bool,v68=(!(((right&&(decide (r_.2=0)))&&(decide (r_.1=x_.Url)))&&(Z1 x_.Doc 0 1000000))):=⟨_,rfl⟩
  replace h:=letAt hv68 h
  refine un1 (v:=(B v68)) (by rw [hv68]; rfl) ?_
  clear hv68
  refine un1 rfl ?_
  refine gjoin 2 (d:=71) (v:=(B (v68||(large||(decide (2000<(x_.State.length:Int))))))) (fun X hX=>?_) ?_
  ·refine split2 (fun hc6=>?_) (fun hc6=>?_)
   ·refine gs rfl rfl<|un1 (v:=(B true)) rfl<|dnil ?_
    exact hX _ (.putEq (by rw [hc6]; rfl) (.skp (.putEq (by rw [hc6]) (.refl _)) rfl))
   ·refine gt rfl<|a1 rfl<|un1 (v:=(B (large||(decide (2000<(x_.State.length:Int)))))) rfl<|dnil ?_
    exact hX _ (.putEq (by rw [hc6]; rfl) (.skp (.putEq (by rw [hc6]) (.refl _)) rfl))
  refine dnil ?_
  refine Sv.cnd rfl h (fun h=>?_) fun h=>?_
  ·refine Sv.exit ?_
   exact Sv.weak (wcn [0] rfl (.cf rfl rfl (.cf rfl rfl (.cf rfl rfl (.cf rfl rfl (.cf rfl rfl (.cr rfl rfl rfl .nil)))))) (.box (by decide) rfl (blkAs_cells (.sm rfl (.sm rfl .nil))) .nil)) (Zb4 h hself hK0 hr)
  ·refine Sv.skip<|ssr<|un1 (v:=(.c (.ref 1 3 0 0))) rfl<|un1 (v:=(S x_.Url)) rfl ?_
   obtain ⟨r_1,hr2,h⟩:=bnd h
   refine un<|ac_pure (Z2s hr2) rfl rfl rfl<|un1 rfl<|un1 (v:=(.agg [.str r_1.1.Scheme,.str r_1.1.Host,cI r_1.1.Port,.ro false 1 (r_1.1.Path.map eStr),.str r_1.1.Query,cB r_1.1.Asks,.str r_1.1.Fragment,cB r_1.1.Points])) rfl<|un1 (v:=(I r_1.2)) rfl<|un<|a2v (v:=(.c (.ref 2 8 0 0))) (h' := upd _ 2 (some (.cells 8 [[.str [],.str [],cI 0,.ro true 1 [],.str [],cB false,.str [],cB false]]))) (n' := 3) rfl rfl hcs<|un<|a2n (h' := upd _ 2 (some (.cells 8 [[.str r_1.1.Scheme,.str r_1.1.Host,cI r_1.1.Port,.ro false 1 (r_1.1.Path.map eStr),.str r_1.1.Query,cB r_1.1.Asks,.str r_1.1.Fragment,cB r_1.1.Points]]))) (n' := 3) rfl rfl hcs<|un1 rfl<|dnil<|ssr<|un1 (v:=(.c (.ref 0 2 0 0))) rfl<|un1 (v:=(.c (.ro false 3 (t_.Entries.map e_TJEntry)))) rfl<|un1 rfl ?_
   obtain ⟨r_2,hx2,h⟩:=bnd h
   refine un1 (v:=(.c (.ro false 3 (r_2.map e_TJEntry)))) (s_slSl (e:=e_TJEntry) rfl rfl rfl hx2)<|un1 (v:=(I (r_2.length:Int))) (s_len (e:=e_TJEntry) (xs:=r_2) rfl)<|un1 rfl<|dnil<|Sv.block ?_
   obtain ⟨kk1,h⟩:=lim_some h
   refine Sv.weak (wcn [0,1,2] rfl (.cf rfl rfl (.cf rfl rfl (.cf rfl rfl (.cf rfl rfl (.cf rfl rfl (.cf rfl rfl (.cr rfl rfl rfl (.cr rfl rfl rfl (.cf rfl rfl (.cf rfl rfl (.cf rfl rfl (.cr rfl rfl rfl .nil)))))))))))) (.box (by decide) rfl (blkAs_cells (.sm rfl (.sm rfl (.sm rfl (.sm rfl (.sm rfl (.sm rfl (.sm rfl (.sm rfl .nil))))))))) (.box (by decide) rfl (blkAs_cells (.sm rfl (.sm rfl (.sm rfl .nil)))) (.box (by decide) rfl (blkAs_cells (.sm rfl (.sm rfl .nil))) .nil)))) (Zg4 h ?_ hr)
   ·intro right4 h _ hw2
    exact Sv.weak (hw2.trans (wcn [0] rfl (.cf rfl rfl (.cf rfl rfl (.cf rfl rfl (.cf rfl rfl (.cf rfl rfl (.cr rfl rfl rfl .nil)))))) (.box (by decide) rfl (blkAs_cells (.sm rfl (.sm rfl .nil))) .nil))) (Zb4 h hself hK0 hr)
 ·refine Sv.exit ?_
  exact hK0 large right h _ (wcn [] rfl (.cf rfl rfl (.cf rfl rfl .nil)) .nil)
noncomputable def Z2u (t_:TJTrail):Option Int :=
 lim fun kk2=>Zb t_ (fun (large1:Bool) (right1:Bool) => 
   if large1 then
    some 2
   else
    if (!right1) then
     some 3
    else
     some 0) kk2 (decide (50<(t_.Entries.length:Int))) (Z1 t_.At 0 (wi ((t_.Entries.length:Int) - 1))) 0
theorem Z7f {mL:Int}{t_:TJTrail}{r:Int}(h:Z2u t_=some r):CPure Tryz.prog (GG mL) 11 [(.agg (e_TJTrail t_))] (I r):=by
 refine acalls_of_sv hmix c11 (R:=Z2t r) ?_
 unfold Z2u at h
 refine ssr<|un<|a2v (v:=(.c (.ref 0 2 0 0))) (h' := upd _ 0 (some (.cells 2 [(e_TJTrail t_)]))) (n' := 1) rfl rfl hcs<|un1 rfl<|dnil<|ssr<|un1 (v:=(.c (.ref 0 2 0 0))) rfl<|un1 (v:=(.c (.ro false 3 (t_.Entries.map e_TJEntry)))) rfl<|un1 (v:=(I (t_.Entries.length:Int))) (s_len (e:=e_TJEntry) (xs:=t_.Entries) rfl)<|un1 (v:=(B (decide (50<(t_.Entries.length:Int))))) rfl<|un1 rfl<|dnil<|ssr<|un1 (v:=(.c (.ref 0 2 0 1))) rfl<|un1 (v:=(I t_.At)) rfl<|un1 (v:=(.c (.ref 0 2 0 0))) rfl<|un1 (v:=(.c (.ro false 3 (t_.Entries.map e_TJEntry)))) rfl<|un1 (v:=(I (t_.Entries.length:Int))) (s_len (e:=e_TJEntry) (xs:=t_.Entries) rfl)<|un1 (v:=(I (wi ((t_.Entries.length:Int) - 1)))) rfl<|un<|ac_pure (Zo (mL:=mL) t_.At 0 (wi ((t_.Entries.length:Int) - 1))) rfl rfl rfl<|un1 rfl<|dnil<|Sv.seq<|ssr<|un1 (v:=(.c (.ref 0 2 0 0))) rfl<|un1 (v:=(.c (.ro false 3 (t_.Entries.map e_TJEntry)))) rfl<|un1 (v:=(I (t_.Entries.length:Int))) (s_len (e:=e_TJEntry) (xs:=t_.Entries) rfl)<|un1 rfl<|dnil<|Sv.block ?_
 obtain ⟨kk2,h⟩:=lim_some h
 refine Sv.weak (wcn [0] rfl (.cf rfl rfl (.cf rfl rfl (.cf rfl rfl (.cf rfl rfl (.cf rfl rfl (.cr rfl rfl rfl .nil)))))) (.box (by decide) rfl (blkAs_cells (.sm rfl (.sm rfl .nil))) .nil)) (Zg5 h ?_ (fun s hs=>hs))
 ·intro large1 right1 h _ hw3
  refine Sv.weak hw3<|Sv.seq<|Sv.block<|ssr<|un1 rfl<|un1 rfl<|dnil ?_
  refine Sv.cnd rfl h (fun h=>?_) fun h=>?_
  ·refine ssr<|un1 rfl<|dnil<|Sv.ret ?_
   exact rt0 h rfl rfl ⟨rfl,rfl,rfl⟩
  ·refine ssr<|un1 rfl<|un1 (v:=(B (!right1))) rfl<|un1 rfl<|dnil ?_
   refine Sv.cnd rfl h (fun h=>?_) fun h=>?_
   ·refine ssr<|un1 rfl<|dnil<|Sv.ret ?_
    exact rt0 h rfl rfl ⟨rfl,rfl,rfl⟩
   ·refine Sv.skip<|ssr<|un1 rfl<|dnil<|Sv.ret ?_
    exact rt0 h rfl rfl ⟨rfl,rfl,rfl⟩
def a37_c0:ACode:=(sr [(oP 14 (.bin .lss (.tmp 13) (.tmp 12)))]
 (.seq (.cond (.tmp 14) .skip (.exit 0))
 (.seq (.block 1 (sr [(mV 15 13),(mV 5 15)]
 (.seq (.drawn (.fin [((mV 16 0),(0,0)),((mV 17 5),(0,1)),((oP 18 (.iaddr 3 (.tmp 16) (.tmp 17))),(0,2)),((oP 19 (.load true 3 (.tmp 18))),(0,3)),((mV 20 1),(0,4)),((mV 21 5),(0,5)),((oP 22 (.iaddr 3 (.tmp 20) (.tmp 21))),(0,6)),((oP 23 (.load true 3 (.tmp 22))),(0,7)),((oP 24 (.eqs true true [.s,.s,.i] (.tmp 19) (.tmp 23))),(0,8))]))
 (.cond (.tmp 24) (sr [(oP 4 (.mov kF))]
 .ret) .skip))))
 (.region [(oP 25 (.bin .add (.tmp 13) (kI 1))),(mV 13 25)]))))
def a37:AFunc:=⟨2,[(.tmp 4)],(sr [(oP 4 (.mov kF))]
 (.seq (sr [(mV 6 0),(oP 7 (.len (.tmp 6))),(mV 8 1),(oP 9 (.len (.tmp 8))),(oP 10 (.bin .neq (.tmp 7) (.tmp 9)))]
 (.cond (.tmp 10) (sr [(oP 4 (.mov kF))]
 .ret) .skip))
 (.seq (sr [(mV 11 0),(oP 12 (.len (.tmp 11))),(oP 13 (.mov (kI 0)))]
 (.block 0 (.loop a37_c0)))
 (sr [(oP 4 (.mov kT))]
 .ret))))⟩
theorem c37:compFunc Tryz.prog 37=some a37:=by kernel_rfl
def Zba (r:Bool):AV→Heap→Nat→Prop:=fun v h' n' => v=(B r)∧(h' = e0)∧n' = 0
abbrev Zg6 (F_:Unit→Option Bool) (o:Bool) (R_:St→Prop):Prop:=∀(_:Unit),F_ ()=some o→∀ s,Weak 0 s ⟨e0,e0,0⟩→R_ s
abbrev Zbb (s1:(List TJEntry)) (s2:(List TJEntry)) (F_:Nat→Int→Option Bool) (o:Bool):Nat→St→Prop:=fun k s=>∃(v13:Int),F_ k v13=some o∧s=⟨(ue [(13,(I v13)),(12,(I (s1.length:Int))),(1,(.c (.ro false 3 (s2.map e_TJEntry)))),(0,(.c (.ro false 3 (s1.map e_TJEntry))))]),e0,0⟩
abbrev Zg7 (s1:(List TJEntry)) (s2:(List TJEntry)) (F_:Int→Option Bool) (o:Bool) (R_:St→Prop):Prop:=∀(v13:Int),F_ v13=some o→∀ s,Weak 0 s ⟨(ue [(13,(I v13)),(12,(I (s1.length:Int))),(1,(.c (.ro false 3 (s2.map e_TJEntry)))),(0,(.c (.ro false 3 (s1.map e_TJEntry))))]),e0,0⟩→R_ s
noncomputable def Z1k (s1:(List TJEntry)) (s2:(List TJEntry)) (K0_:Unit→Option Bool):Nat→Int→Option Bool
 | 0,_=>none
 | k+1,v13 =>
  if decide (v13<(s1.length:Int)) then
   (at? s1 v13).bind fun x_ =>
   (at? s2 v13).bind fun x_1 =>
   letIn (!(decide (x_.Url=x_1.Url)&&(decide (x_.State=x_1.State)&&(decide (x_.Doc=x_1.Doc)&&true)))) fun v24:Bool =>
   if v24 then
    some false
   else
    (Z1k s1 s2 K0_ k) (wi (v13+1))
  else
   K0_ ()
theorem Zg8 {mL:Int}{Q:AExit→St→Prop}{s1:(List TJEntry)}{s2:(List TJEntry)}{K0_:Unit→Option Bool}{k:Nat}{v13:Int}{o:Bool}(h:Z1k s1 s2 K0_ k v13=some o)
  (hK0:Zg6 K0_ o (Q (.exit 0)))
  (hr:∀ s,Ends a37.results 0 (Zba o) .ret s→Q .ret s) :
  Sv Tryz.prog (GG mL) 0 (.loop a37_c0) Q ⟨(ue [(13,(I v13)),(12,(I (s1.length:Int))),(1,(.c (.ro false 3 (s2.map e_TJEntry)))),(0,(.c (.ro false 3 (s1.map e_TJEntry))))]),e0,0⟩:=by
 refine Sv.loop (I:=Zbb s1 s2 (Z1k s1 s2 K0_) o) (fun k s hI=>?_) ⟨v13,h,rfl⟩
 clear h
 clear v13
 obtain ⟨v13,h,rfl⟩:=hI
 cases k with
 | zero=>cases h
 | succ k =>
 rw [Z1k] at h
 have hself:Zg7 s1 s2 (Z1k s1 s2 K0_ k) o (rnd 0 (Zbb s1 s2 (Z1k s1 s2 K0_) o) k Q):=fun v13 h s hw=>⟨_,k,hw,Nat.lt_succ_self k,v13,h,rfl⟩
 refine ssr<|un1 (v:=(B (decide (v13<(s1.length:Int))))) rfl<|dnil<|Sv.seq ?_
 refine Sv.cnd rfl h (fun h=>?_) fun h=>?_
 ·refine Sv.skip<|Sv.seq<|Sv.block<|ssr<|un1 rfl<|un1 rfl<|dnil<|Sv.seq<|Sv.drawn<|un1 rfl<|un1 rfl ?_
  obtain ⟨x_,hx1,h⟩:=bnd h
  refine un1 (v:=(.c (.rop (e_TJEntry x_)))) (s_iaddr (e:=e_TJEntry) (xs:=s1) rfl rfl hx1)<|un1 (v:=(.agg (e_TJEntry x_))) rfl<|un1 rfl<|un1 rfl ?_
  obtain ⟨x_1,hx2,h⟩:=bnd h
  refine un1 (v:=(.c (.rop (e_TJEntry x_1)))) (s_iaddr (e:=e_TJEntry) (xs:=s2) rfl rfl hx2)<|un1 (v:=(.agg (e_TJEntry x_1))) rfl ?_
  obtain ⟨v24,hv24⟩:∃ v24:Bool,v24=(!(decide (x_.Url=x_1.Url)&&(decide (x_.State=x_1.State)&&(decide (x_.Doc=x_1.Doc)&&true)))):=⟨_,rfl⟩
  replace h:=letAt hv24 h
  refine un1 (v:=(B v24)) (by rw [hv24]; rfl) ?_
  clear hv24
  refine dnil ?_
  refine Sv.cnd rfl h (fun h=>?_) fun h=>?_
  ·refine ssr<|un1 rfl<|dnil<|Sv.ret ?_
   exact hr _ (rt0 h rfl rfl ⟨rfl,rfl,rfl⟩)
  ·refine Sv.skip<|srg<|un1 (v:=(I (wi (v13+1)))) rfl<|un1 rfl<|dnil ?_
   exact hself (wi (v13+1)) h _ (wcn [] rfl (.cf rfl rfl (.cf rfl rfl (.cf rfl rfl (.cf rfl rfl .nil)))) .nil)
 ·refine Sv.exit ?_
  exact hK0 () h _ (wcn [] rfl .nil .nil)
noncomputable def Z61 (s1:(List TJEntry)) (s2:(List TJEntry)):Option Bool :=
 if (!decide ((s1.length:Int)=(s2.length:Int))) then
  some false
 else
  lim fun kk=>Z1k s1 s2 (fun (_:Unit) => 
    some true) kk 0
theorem Zg9 {mL:Int}{s1:(List TJEntry)}{s2:(List TJEntry)}{r:Bool}(h:Z61 s1 s2=some r):CPure Tryz.prog (GG mL) 37 [(.c (.ro false 3 (s1.map e_TJEntry))),(.c (.ro false 3 (s2.map e_TJEntry)))] (B r):=by
 refine acalls_of_sv hmix c37 (R:=Zba r) ?_
 unfold Z61 at h
 refine ssr<|un1 rfl<|dnil<|Sv.seq<|ssr<|un1 rfl<|un1 (v:=(I (s1.length:Int))) (s_len (e:=e_TJEntry) (xs:=s1) rfl)<|un1 rfl<|un1 (v:=(I (s2.length:Int))) (s_len (e:=e_TJEntry) (xs:=s2) rfl)<|un1 (v:=(B (!decide ((s1.length:Int)=(s2.length:Int))))) rfl<|dnil ?_
 refine Sv.cnd rfl h (fun h=>?_) fun h=>?_
 ·refine ssr<|un1 rfl<|dnil<|Sv.ret ?_
  exact rt0 h rfl rfl ⟨rfl,rfl,rfl⟩
 ·refine Sv.skip<|Sv.seq<|ssr<|un1 rfl<|un1 (v:=(I (s1.length:Int))) (s_len (e:=e_TJEntry) (xs:=s1) rfl)<|un1 rfl<|dnil<|Sv.block ?_
  obtain ⟨kk,h⟩:=lim_some h
  refine Sv.weak (wcn [] rfl (.cf rfl rfl (.cf rfl rfl (.cf rfl rfl (.cf rfl rfl .nil)))) .nil) (Zg8 h ?_ (fun s hs=>hs))
  ·intro _ h _ hw1
   refine Sv.weak hw1<|ssr<|un1 rfl<|dnil<|Sv.ret ?_
   exact rt0 h rfl rfl ⟨rfl,rfl,rfl⟩
def a12_c0:ACode:=.ret
def a12:AFunc:=⟨2,[(.tmp 4)],(sr [(oP 2 (.box (.tmp 0))),(oP 3 (.box (.tmp 1))),(oP 4 (.mov kF))]
 (sr [(oP 5 (.faddr 1 (.tmp 2))),(oP 6 (.load false 1 (.tmp 5))),(oP 7 (.faddr 1 (.tmp 3))),(oP 8 (.load false 1 (.tmp 7))),(oP 9 (.bin .eql (.tmp 6) (.tmp 8))),(mV 10 9),⟨(some 11),(.faddr 0 (.tmp 2)),(some (10,true))⟩,⟨(some 12),(.load false 1 (.tmp 11)),(some (10,true))⟩,⟨(some 13),(.faddr 0 (.tmp 3)),(some (10,true))⟩,⟨(some 14),(.load false 1 (.tmp 13)),(some (10,true))⟩,⟨(some 15),(.call 37 [(.tmp 12),(.tmp 14)]),(some (10,true))⟩,(oP 16 (.pick (.tmp 10) (.tmp 15) kF)),(mV 4 16)]
 a12_c0))⟩
theorem c12:compFunc Tryz.prog 12=some a12:=by kernel_rfl
def Zbc (r:Bool):AV→Heap→Nat→Prop:=fun v h' n' => v=(B r)∧(h' = e0)∧n' = 0
noncomputable def Z62 (v4:Bool):Option Bool :=
 some v4
theorem Zbd {mL:Int}{v4:Bool}{o:Bool}(h:Z62 v4=some o) :
  Sv Tryz.prog (GG mL) 0 a12_c0 (Ends a12.results 0 (Zbc o)) ⟨(upd e0 4 (some (B v4))),e0,0⟩:=by
 unfold Z62 at h
 refine Sv.ret ?_
 exact rt0 h rfl rfl ⟨rfl,rfl,rfl⟩
noncomputable def Z25 (a_:TJTrail) (b_:TJTrail):Option Bool :=
 if decide (a_.At=b_.At) then
  (Z61 a_.Entries b_.Entries).bind fun r_ =>
  Z62 r_
 else
  Z62 false
theorem Z63 {mL:Int}{a_:TJTrail}{b_:TJTrail}{r:Bool}(h:Z25 a_ b_=some r):CPure Tryz.prog (GG mL) 12 [(.agg (e_TJTrail a_)),(.agg (e_TJTrail b_))] (B r):=by
 refine acalls_of_sv hmix c12 (R:=Zbc r) ?_
 unfold Z25 at h
 refine ssr<|un<|a2v (v:=(.c (.ref 0 2 0 0))) (h' := upd _ 0 (some (.cells 2 [(e_TJTrail a_)]))) (n' := 1) rfl rfl hcs<|un<|a2v (v:=(.c (.ref 1 2 0 0))) (h' := upd _ 1 (some (.cells 2 [(e_TJTrail b_)]))) (n' := 2) rfl rfl hcs<|un1 rfl<|dnil<|ssr<|un1 (v:=(.c (.ref 0 2 0 1))) rfl<|un1 (v:=(I a_.At)) rfl<|un1 (v:=(.c (.ref 1 2 0 1))) rfl<|un1 (v:=(I b_.At)) rfl<|un1 (v:=(B (decide (a_.At=b_.At)))) rfl<|un1 rfl ?_
 refine spl h (fun h=>?_) fun h=>?_
 ·refine gt rfl<|a1 (v:=(.c (.ref 0 2 0 0))) rfl<|gt rfl<|a1 (v:=(.c (.ro false 3 (a_.Entries.map e_TJEntry)))) rfl<|gt rfl<|a1 (v:=(.c (.ref 1 2 0 0))) rfl<|gt rfl<|a1 (v:=(.c (.ro false 3 (b_.Entries.map e_TJEntry)))) rfl ?_
  obtain ⟨r_,hr1,h⟩:=bnd h
  refine gt rfl<|ac_pure (Zg9 hr1) rfl rfl rfl<|un1 (v:=(B r_)) rfl<|un1 rfl<|dnil ?_
  exact Sv.weak (wcn [] rfl (.cf rfl rfl .nil) .nil) (Zbd h)
 ·repeat (first | refine gu rfl ?_ | refine gs rfl rfl ?_)
  refine un1 (v:=(B false)) rfl<|un1 rfl<|dnil ?_
  exact Sv.weak (wcn [] rfl (.cf rfl rfl .nil) .nil) (Zbd h)
def a13_c1:ACode:=(sr [(oP 79 (.bin .lss (.tmp 78) (.tmp 77)))]
 (.seq (.cond (.tmp 79) .skip (.exit 0))
 (.seq (.block 1 (sr [(oP 80 (.iaddr 3 (.tmp 76) (.tmp 78))),(oP 81 (.load true 3 (.tmp 80))),(oP 20 (.box (.const (.agg [(.str []),(.str []),(.val (.int .i64 0))])))),(oN (.store 3 (.tmp 20) (.tmp 81)))]
 (.region [(oP 82 (.faddr 2 (.tmp 14))),(oP 83 (.load false 1 (.tmp 82))),(oP 84 (.faddr 2 (.tmp 20))),(oP 85 (.load false 1 (.tmp 84))),(oP 86 (.mm true [(.tmp 83),(.tmp 85)])),(oP 87 (.faddr 2 (.tmp 14))),(oN (.store 1 (.tmp 87) (.tmp 86)))])))
 (.region [(oP 88 (.bin .add (.tmp 78) (kI 1))),(mV 78 88)]))))
def a13_c0:ACode:=(.cond (.tmp 73) (sr [(oP 74 (.faddr 2 (.tmp 14))),(oN (.store 1 (.tmp 74) (.const (.c (.val (.int .i64 (-1)))))))]
 (.seq (sr [(oP 75 (.faddr 0 (.tmp 4))),(oP 76 (.load false 1 (.tmp 75))),(oP 77 (.len (.tmp 76))),(oP 78 (.mov (kI 0)))]
 (.block 0 (.loop a13_c1)))
 (sr [(oP 89 (.faddr 2 (.tmp 14))),(oP 90 (.load false 1 (.tmp 89))),(oP 91 (.bin .add (.tmp 90) (kI 1))),(oP 92 (.faddr 2 (.tmp 14))),(oN (.store 1 (.tmp 92) (.tmp 91)))]
 (sr [(oP 93 (.faddr 2 (.tmp 14))),(oP 94 (.load false 1 (.tmp 93))),(oP 95 (.bin .gtr (.tmp 94) (kI 1000000)))]
 (.cond (.tmp 95) (sr [(oP 96 (.build [(.ro true 3 []),(.val (.int .i64 0))] [])),(oN (.store 2 (.tmp 8) (.tmp 96))),(oP 9 (.mov (kI 2)))]
 .ret) .skip))))) .skip)
def a13_c3:ACode:=(sr [(mV 147 25),(mV 148 25),(oP 149 (.len (.tmp 148))),(oP 150 (.bin .sub (.tmp 149) (kI 1))),(oP 151 (.build [(.ro true 3 []),(.val (.int .i64 0))] [(0,(1,(.tmp 147))),(1,(1,(.tmp 150)))])),(oN (.store 2 (.tmp 8) (.tmp 151))),(oP 9 (.mov (kI 0)))]
 .ret)
def a13_c2:ACode:=(sr [(oP 120 (.faddr 0 (.tmp 4))),(oP 121 (.load false 1 (.tmp 120))),(oP 122 (.call 22 [(.tmp 121)])),(mV 25 122)]
 (.seq (sr [(mV 123 1),(oP 124 (.bin .eql (.tmp 123) (kI 3)))]
 (.cond (.tmp 124) (sr [(mV 125 25),(oP 126 (.faddr 1 (.tmp 4))),(oP 127 (.load false 1 (.tmp 126))),(oP 128 (.load true 3 (.tmp 14))),(oP 129 (.iaddr 3 (.tmp 125) (.tmp 127))),(oN (.store 3 (.tmp 129) (.tmp 128)))]
 (sr [(mV 130 25),(oP 131 (.faddr 1 (.tmp 4))),(oP 132 (.load false 1 (.tmp 131))),(oP 133 (.build [(.ro true 3 []),(.val (.int .i64 0))] [(0,(1,(.tmp 130))),(1,(1,(.tmp 132)))])),(oN (.store 2 (.tmp 8) (.tmp 133))),(oP 9 (.mov (kI 0)))]
 .ret)) .skip))
 (.seq (.drawn (.fin [((mV 134 25),(0,0)),((oP 135 (.faddr 1 (.tmp 4))),(0,1)),((oP 136 (.load false 1 (.tmp 135))),(0,2)),((oP 137 (.bin .add (.tmp 136) (kI 1))),(0,3)),((oP 138 (.slSl 3 (.tmp 134) none (some (.tmp 137)) none)),(0,4)),((oP 139 (.load true 3 (.tmp 14))),(0,5)),((oP 140 (.bslice 3 [(.str []),(.str []),(.val (.int .i64 0))] 1 [(0,(.tmp 139))])),(1,6)),((oP 141 (.app 3 40 (.tmp 138) (.tmp 140))),(2,7)),((mV 25 141),(0,8))]))
 (.seq (sr [(mV 142 25),(oP 143 (.len (.tmp 142))),(oP 144 (.bin .eql (.tmp 143) (kI 51)))]
 (.cond (.tmp 144) (.region [(mV 145 25),(oP 146 (.slSl 3 (.tmp 145) (some (kI 1)) none none)),(mV 25 146)]) .skip))
 a13_c3))))
def a13:AFunc:=⟨4,[(.cell true 2 8),(.tmp 9)],(sr [(oP 4 (.box (.tmp 0))),(oP 8 (.box (.const (.agg [(.ro true 3 []),(.val (.int .i64 0))])))),(oP 9 (.mov (kI 0)))]
 (.seq (sr [(oP 26 (.load true 2 (.tmp 4))),(oP 27 (.call 11 [(.tmp 26)])),(mV 10 27)]
 (sr [(mV 28 10),(oP 29 (.bin .neq (.tmp 28) (kI 0)))]
 (.cond (.tmp 29) (sr [(oP 30 (.build [(.ro true 3 []),(.val (.int .i64 0))] [])),(mV 31 10),(oN (.store 2 (.tmp 8) (.tmp 30))),(mV 9 31)]
 .ret) .skip)))
 (sr [(oP 32 (.faddr 0 (.tmp 4))),(oP 33 (.load false 1 (.tmp 32))),(oP 34 (.faddr 1 (.tmp 4))),(oP 35 (.load false 1 (.tmp 34))),(oP 36 (.iaddr 3 (.tmp 33) (.tmp 35))),(oP 37 (.load true 3 (.tmp 36))),(oP 11 (.box (.const (.agg [(.str []),(.str []),(.val (.int .i64 0))])))),(oN (.store 3 (.tmp 11) (.tmp 37)))]
 (sr [(oP 39 (.faddr 0 (.tmp 11))),(oP 40 (.load false 1 (.tmp 39))),(mV 41 2),(oP 42 (.call 9 [(.tmp 40),(.tmp 41)])),(mV 38 42),(oP 43 (.ext (.tmp 38) 0)),(oP 44 (.ext (.tmp 38) 1)),(mV 12 43),(mV 13 44)]
 (.seq (sr [(mV 45 13),(oP 46 (.bin .neq (.tmp 45) (kI 0)))]
 (.cond (.tmp 46) (sr [(oP 47 (.build [(.ro true 3 []),(.val (.int .i64 0))] [])),(mV 48 13),(oN (.store 2 (.tmp 8) (.tmp 47))),(mV 9 48)]
 .ret) .skip))
 (sr [(mV 49 12),(oP 50 (.faddr 2 (.tmp 11))),(oP 51 (.load false 1 (.tmp 50))),(oP 52 (.build [(.str []),(.str []),(.val (.int .i64 0))] [(0,(1,(.tmp 49))),(2,(1,(.tmp 51)))])),(oP 14 (.box (.const (.agg [(.str []),(.str []),(.val (.int .i64 0))])))),(oN (.store 3 (.tmp 14) (.tmp 52)))]
 (.seq (sr [(mV 53 1),(oP 54 (.bin .eql (.tmp 53) (kI 1)))]
 (.cond (.tmp 54) (sr [(mV 56 12),(oP 57 (.call 38 [(.tmp 56),(.const (.c (.str [35])))])),(mV 55 57),(oP 58 (.ext (.tmp 55) 0)),(oP 59 (.ext (.tmp 55) 1)),(mV 15 58),(mV 16 59)]
 (sr [(oP 61 (.faddr 0 (.tmp 11))),(oP 62 (.load false 1 (.tmp 61))),(oP 63 (.call 38 [(.tmp 62),(.const (.c (.str [35])))])),(mV 60 63),(oP 64 (.ext (.tmp 60) 0)),(oP 65 (.ext (.tmp 60) 1)),(mV 17 64),(mV 18 65)]
 (sr [(mV 66 15),(mV 67 17),(oP 68 (.bin .neq (.tmp 66) (.tmp 67))),(mV 69 68),⟨(some 70),(.mov (.tmp 2)),(some (69,false))⟩,⟨(some 71),(.call 18 [(.tmp 70),(.const (.c (.str [35])))]),(some (69,false))⟩,⟨(some 72),(.un .not (.tmp 71)),(some (69,false))⟩,(oP 73 (.pick (.tmp 69) kT (.tmp 72)))]
 a13_c0))) (sr [(mV 97 3),(oP 98 (.faddr 1 (.tmp 14))),(oN (.store 1 (.tmp 98) (.tmp 97)))]
 (sr [(mV 100 12),(oP 101 (.call 23 [(.tmp 100)])),(mV 99 101),(oP 102 (.ext (.tmp 99) 0)),(oP 103 (.ext (.tmp 99) 1)),(oP 21 (.box (.const (.agg [(.str []),(.str []),(.val (.int .i64 0)),(.ro true 1 []),(.str []),(.val (.bool false)),(.str []),(.val (.bool false))])))),(oN (.store 8 (.tmp 21) (.tmp 102))),(mV 22 103)]
 (sr [(oP 105 (.faddr 0 (.tmp 11))),(oP 106 (.load false 1 (.tmp 105))),(oP 107 (.call 23 [(.tmp 106)])),(mV 104 107),(oP 108 (.ext (.tmp 104) 0)),(oP 109 (.ext (.tmp 104) 1)),(oP 23 (.box (.const (.agg [(.str []),(.str []),(.val (.int .i64 0)),(.ro true 1 []),(.str []),(.val (.bool false)),(.str []),(.val (.bool false))])))),(oN (.store 8 (.tmp 23) (.tmp 108))),(mV 24 109)]
 (.seq (sr [(mV 110 3),(oP 111 (.lenS (.tmp 110))),(oP 112 (.bin .gtr (.tmp 111) (kI 2000)))]
 (.cond (.tmp 112) (sr [(oP 113 (.build [(.ro true 3 []),(.val (.int .i64 0))] [])),(oN (.store 2 (.tmp 8) (.tmp 113))),(oP 9 (.mov (kI 2)))]
 .ret) .skip))
 (.seq (.drawn (.fin [((oP 114 (.load true 8 (.tmp 21))),(0,0)),((oP 116 (.load true 8 (.tmp 23))),(0,2)),((oP 115 (.call 36 [(.tmp 114)])),(1,1)),((oP 117 (.call 36 [(.tmp 116)])),(2,3)),((oP 118 (.bin .neq (.tmp 115) (.tmp 117))),(0,4))]))
 (.cond (.tmp 118) (sr [(oP 119 (.build [(.ro true 3 []),(.val (.int .i64 0))] [])),(oN (.store 2 (.tmp 8) (.tmp 119))),(oP 9 (.mov (kI 12)))]
 .ret) .skip))))))))
 a13_c2)))))))⟩
theorem c13:compFunc Tryz.prog 13=some a13:=by kernel_rfl
def Z3q (r:(TJTrail×Int)):AV→Heap→Nat→Prop:=fun v h' n' => v=(.tup [(.agg (e_TJTrail r.1)),(I r.2)])∧(h' = e0)∧n' = 0
noncomputable def Z3r (l_:(List TJEntry)):Option (TJTrail×Int) :=
 some ((⟨l_,(wi ((l_.length:Int) - 1))⟩:TJTrail),0)
theorem Zbe {mL:Int}{l_:(List TJEntry)}{o:(TJTrail×Int)}(h:Z3r l_=some o) :
  Sv Tryz.prog (GG mL) 0 a13_c3 (Ends a13.results 0 (Z3q o)) ⟨(ue [(25,(.c (.ro false 3 (l_.map e_TJEntry)))),(8,(.c (.ref 0 2 0 0)))]),(upd e0 0 (some (.cells 2 [[.ro true 3 [],cI 0]]))),1⟩:=by
 unfold Z3r at h
 refine ssr<|un1 rfl<|un1 rfl<|un1 (v:=(I (l_.length:Int))) (s_len (e:=e_TJEntry) (xs:=l_) rfl)<|un1 (v:=(I (wi ((l_.length:Int) - 1)))) rfl<|un1 (v:=(.agg [.ro false 3 (l_.map e_TJEntry),cI (wi ((l_.length:Int) - 1))])) rfl<|un<|a2n (h' := upd _ 0 (some (.cells 2 [[.ro false 3 (l_.map e_TJEntry),cI (wi ((l_.length:Int) - 1))]]))) (n' := 1) rfl rfl hcs<|un1 rfl<|dnil<|Sv.ret ?_
 exact rt0 h rfl rfl ⟨rfl,rfl,rfl⟩
noncomputable def Z26 (t_:TJTrail) (how:Int) (r_1:(Tx×Int)) (x1:Tx) (x2:Int):Option (TJTrail×Int) :=
 (Z1d t_.Entries).bind fun r_2 =>
 if decide (how=3) then
  (at? r_2 t_.At).bind fun x_1 =>
  some ((⟨(r_2.set t_.At.toNat (⟨r_1.1,x1,x2⟩:TJEntry)),t_.At⟩:TJTrail),0)
 else
  (sub? r_2 0 (wi (t_.At+1))).bind fun r_3 =>
  (app? 40 r_3 [(⟨r_1.1,x1,x2⟩:TJEntry)]).bind fun r_4 =>
  if decide ((r_4.length:Int)=51) then
   (sub? r_4 1 (r_4.length:Int)).bind fun r_5 =>
   Z3r r_5
  else
   Z3r r_4
theorem Z7g {mL:Int}{t_:TJTrail}{how:Int}{r_1:(Tx×Int)}{x1:Tx}{x2:Int}{o:(TJTrail×Int)}(h:Z26 t_ how r_1 x1 x2=some o) :
  Sv Tryz.prog (GG mL) 0 a13_c2 (Ends a13.results 0 (Z3q o)) ⟨(ue [(14,(.c (.ref 2 3 0 0))),(8,(.c (.ref 1 2 0 0))),(4,(.c (.ref 0 2 0 0))),(1,(I how))]),(upd (upd (upd e0 0 (some (.cells 2 [(e_TJTrail t_)]))) 1 (some (.cells 2 [[.ro true 3 [],cI 0]]))) 2 (some (.cells 3 [[.str r_1.1,.str x1,cI x2]]))),3⟩:=by
 unfold Z26 at h
 refine ssr<|un1 (v:=(.c (.ref 0 2 0 0))) rfl<|un1 (v:=(.c (.ro false 3 (t_.Entries.map e_TJEntry)))) rfl ?_
 obtain ⟨r_2,hr3,h⟩:=bnd h
 refine un<|ac_gen (bs:=[]) («as»:=[(.c (.ro false 3 (t_.Entries.map e_TJEntry)))]) (h2:=_) (h1:=e0) (Z2k hr3) rfl (.cons (avAs_free rfl) .nil) (hsub_refl _) (.nil _) (fun _=>rfl) (by decide) (by decide) (.cons (avAs_free rfl) .nil) .nil ?_
 rintro _ _ _ hn ⟨z_,hz_,rfl,rfl,rfl⟩
 refine ⟨.inl rfl,(upd (rem [] _) 3 (lstB z_ 3 (r_2.map e_TJEntry))),fun hbd=>(m3_cons (m3_row rfl (fr_map fun _=>rfl)) (m3_rem (in_nil _) (.cons (by decide) .nil) hbd)),(lstV z_ 3 3 r_2.length),4,(by cases z_ <;> rfl),rfl,?_⟩
 refine un1 rfl<|dnil<|Sv.seq<|ssr<|un1 rfl<|un1 (v:=(B (decide (how=3)))) rfl<|dnil ?_
 refine Sv.cnd rfl h (fun h=>?_) fun h=>?_
 ·refine ssr<|un1 rfl<|un1 (v:=(.c (.ref 0 2 0 1))) rfl<|un1 (v:=(I t_.At)) rfl<|un1 (v:=(.agg [.str r_1.1,.str x1,cI x2])) rfl ?_
  obtain ⟨x_1,hx2,h⟩:=bnd h
  refine un1 (v:=(.c (.ref 3 3 t_.At.toNat 0))) (s_iaddrL rfl rfl hz_ hx2)<|un<|a2n (h' := upd _ 3 (lstB z_ 3 ((r_2.set t_.At.toNat (⟨r_1.1,x1,x2⟩:TJEntry)).map e_TJEntry))) (n' := 4) rfl (s_storeL (e:=e_TJEntry) (q' := (⟨r_1.1,x1,x2⟩:TJEntry)) rfl rfl hz_ hx2 rfl rfl rfl (Nat.le_of_ble_eq_true rfl) rfl) hcs ?_
  try rw [len_set r_2 t_.At.toNat (⟨r_1.1,x1,x2⟩:TJEntry)]
  refine dnil<|ssr<|un1 rfl<|un1 (v:=(.c (.ref 0 2 0 1))) rfl<|un1 (v:=(I t_.At)) rfl<|un1 (v:=(.agg [lstC z_ 3 3 (r_2.set t_.At.toNat (⟨r_1.1,x1,x2⟩:TJEntry)).length,cI t_.At])) rfl<|un<|a2n (h' := upd _ 1 (some (.cells 2 [[lstC z_ 3 3 (r_2.set t_.At.toNat (⟨r_1.1,x1,x2⟩:TJEntry)).length,cI t_.At]]))) (n' := 4) rfl rfl hcs<|un1 rfl<|dnil<|Sv.ret ?_
  replace h:=Option.some.inj h
  subst h
  exact ⟨_,.refl _,_,rfl,⟨upd e0 0 (some (.tup [(.agg [.ro false 3 ((r_2.set t_.At.toNat (⟨r_1.1,x1,x2⟩:TJEntry)).map e_TJEntry),cI t_.At]),(I 0)])),e0,0⟩,(.tup [(.agg [.ro false 3 ((r_2.set t_.At.toNat (⟨r_1.1,x1,x2⟩:TJEntry)).map e_TJEntry),cI t_.At]),(I 0)]),weak_canon [] rfl ndl nll nlz (.cons rfl (avAs_tup (.cons (avAs_agg (.cons (lstC_ro (es:=List.map e_TJEntry (r_2.set t_.At.toNat (⟨r_1.1,x1,x2⟩:TJEntry))) rfl (List.length_map e_TJEntry).symm (map_nil_of (hz_len hz_ (len_set r_2 t_.At.toNat (⟨r_1.1,x1,x2⟩:TJEntry)))) (fun b x hx=>not_in (bs:=[]) rfl b (((.nil):HLt _ _) b x hx)) (fr_map fun _=>rfl)) (.sm rfl .nil))) (.cons (avAs_free rfl) .nil))) .nil) .nil,rfl,rfl,rfl,rfl⟩
 ·refine Sv.skip<|Sv.seq<|Sv.drawn<|un1 rfl<|un1 (v:=(.c (.ref 0 2 0 1))) rfl<|un1 (v:=(I t_.At)) rfl<|un1 (v:=(I (wi (t_.At+1)))) rfl ?_
  obtain ⟨r_3,hx3,h⟩:=bnd h
  refine un1 (v:=(cutV z_ 3 3 r_3.length r_2.length)) (s_cutL rfl hz_ rfl rfl hx3)<|dweak (show Weak 0 _ ⟨(ue [(138,(lstV z_ 3 3 r_3.length)),(137,(I (wi (t_.At+1)))),(136,(I t_.At)),(135,(.c (.ref 0 2 0 1))),(124,(B (decide (how=3)))),(123,(I how)),(121,(.c (.ro false 3 (t_.Entries.map e_TJEntry)))),(120,(.c (.ref 0 2 0 0))),(14,(.c (.ref 2 3 0 0))),(8,(.c (.ref 1 2 0 0))),(4,(.c (.ref 0 2 0 0))),(1,(I how))]),(upd (upd (upd (upd e0 0 (some (.cells 2 [(e_TJTrail t_)]))) 1 (some (.cells 2 [[.ro true 3 [],cI 0]]))) 2 (some (.cells 3 [[.str r_1.1,.str x1,cI x2]]))) 3 (lstB z_ 3 (r_3.map e_TJEntry))),4⟩ from (wcn [0,1,2,3] rfl (.cons rfl (.c (cut_ren rfl (by decide) (cut_le hx3))) (.cf rfl rfl (.cf rfl rfl (.cr rfl rfl rfl (.cf rfl rfl (.cf rfl rfl (.cf rfl rfl (.cr rfl rfl rfl (.cr rfl rfl rfl (.cr rfl rfl rfl (.cr rfl rfl rfl (.cf rfl rfl .nil)))))))))))) (.rowP (by decide) rfl (cutP hx3) (fr_map fun _=>rfl) (.box (by decide) rfl (blkAs_cells (.sm rfl (.sm rfl (.sm rfl .nil)))) (.box (by decide) rfl (blkAs_cells (.sm rfl (.sm rfl .nil))) (.box (by decide) rfl (blkAs_cells (.sm rfl (.sm rfl .nil))) .nil))))))<|un1 (v:=(.agg [.str r_1.1,.str x1,cI x2])) rfl<|un<|a2v (v:=(lstV false 4 3 [(⟨r_1.1,x1,x2⟩:TJEntry)].length)) (h' := upd _ 4 (lstB false 3 ([(⟨r_1.1,x1,x2⟩:TJEntry)].map e_TJEntry))) (n' := 5) rfl rfl (fun _=>rfl) ?_
  obtain ⟨r_4,hr4,h⟩:=bnd h
  have hz1:(z_&&[(⟨r_1.1,x1,x2⟩:TJEntry)].isEmpty)=true→r_4=[]:=app_nil (z:=z_) (ys:=[(⟨r_1.1,x1,x2⟩:TJEntry)]) (cut_nil hz_ hx3) hr4
  refine un<|a2v rfl (s_app (xs:=r_3) (ys:=[(⟨r_1.1,x1,x2⟩:TJEntry)]) (e:=e_TJEntry) (z:=z_) (b:=3) rfl rfl (cut_nil hz_ hx3) rfl rfl (slc_lst rfl (List.length_map _).symm (map_nil_of hcs)) hr4) hcs<|un1 rfl<|dnil<|Sv.seq<|ssr<|un1 rfl<|un1 (v:=(I (r_4.length:Int))) (s_lenL rfl (len_nil_of hz1))<|un1 (v:=(B (decide ((r_4.length:Int)=51)))) rfl<|dnil ?_
  refine Sv.cnd rfl h (fun h=>?_) fun h=>?_
  ·refine Sv.weak (show Weak 0 _ ⟨(ue [(144,(B (decide ((r_4.length:Int)=51)))),(143,(I (r_4.length:Int))),(142,(.c (.ro false 3 (r_4.map e_TJEntry)))),(141,(.c (.ro false 3 (r_4.map e_TJEntry)))),(140,(lstV false 4 3 [(⟨r_1.1,x1,x2⟩:TJEntry)].length)),(139,(.agg [.str r_1.1,.str x1,cI x2])),(137,(I (wi (t_.At+1)))),(136,(I t_.At)),(135,(.c (.ref 0 2 0 1))),(124,(B (decide (how=3)))),(123,(I how)),(121,(.c (.ro false 3 (t_.Entries.map e_TJEntry)))),(120,(.c (.ref 0 2 0 0))),(25,(.c (.ro false 3 (r_4.map e_TJEntry)))),(14,(.c (.ref 2 3 0 0))),(8,(.c (.ref 1 2 0 0))),(4,(.c (.ref 0 2 0 0))),(1,(I how))]),(upd (upd (upd (upd e0 0 (some (.cells 2 [(e_TJTrail t_)]))) 1 (some (.cells 2 [[.ro true 3 [],cI 0]]))) 2 (some (.cells 3 [[.str r_1.1,.str x1,cI x2]]))) 4 (lstB false 3 ([(⟨r_1.1,x1,x2⟩:TJEntry)].map e_TJEntry))),6⟩ from (wcn [0,1,2,1003,4,1005] rfl (.cf rfl rfl (.cf rfl rfl (.cons rfl (.c (lstC_ro (es:=List.map e_TJEntry r_4) rfl (List.length_map e_TJEntry).symm (map_nil_of hz1) (fun b x hx=>not_in (bs:=[0,1,2,1003,4,1005]) rfl b (((.cons (by decide) (.cons (by decide) (.cons (by decide) (.cons (by decide) .nil)))):HLt _ _) b x hx)) (fr_map fun _=>rfl))) (.cons rfl (.c (lstC_ro (es:=List.map e_TJEntry r_4) rfl (List.length_map e_TJEntry).symm (map_nil_of hz1) (fun b x hx=>not_in (bs:=[0,1,2,1003,4,1005]) rfl b (((.cons (by decide) (.cons (by decide) (.cons (by decide) (.cons (by decide) .nil)))):HLt _ _) b x hx)) (fr_map fun _=>rfl))) (.cons rfl (.c (lsr rfl rfl)) (.cf rfl rfl (.cf rfl rfl (.cf rfl rfl (.cr rfl rfl rfl (.cf rfl rfl (.cf rfl rfl (.cf rfl rfl (.cr rfl rfl rfl (.cons rfl (.c (lstC_ro (es:=List.map e_TJEntry r_4) rfl (List.length_map e_TJEntry).symm (map_nil_of hz1) (fun b x hx=>not_in (bs:=[0,1,2,1003,4,1005]) rfl b (((.cons (by decide) (.cons (by decide) (.cons (by decide) (.cons (by decide) .nil)))):HLt _ _) b x hx)) (fr_map fun _=>rfl))) (.cr rfl rfl rfl (.cr rfl rfl rfl (.cr rfl rfl rfl (.cf rfl rfl .nil)))))))))))))))))) (.row (by decide) rfl (fr_map fun _=>rfl) (.box (by decide) rfl (blkAs_cells (.sm rfl (.sm rfl (.sm rfl .nil)))) (.box (by decide) rfl (blkAs_cells (.sm rfl (.sm rfl .nil))) (.box (by decide) rfl (blkAs_cells (.sm rfl (.sm rfl .nil))) .nil))))))<|srg<|un1 rfl ?_
   obtain ⟨r_5,hx4,h⟩:=bnd h
   refine un1 (v:=(.c (.ro false 3 (r_5.map e_TJEntry)))) (s_slSl (e:=e_TJEntry) rfl rfl rfl hx4)<|un1 rfl<|dnil ?_
   exact Sv.weak (wcn [1] rfl (.cf rfl rfl (.cr rfl rfl rfl .nil)) (.box (by decide) rfl (blkAs_cells (.sm rfl (.sm rfl .nil))) .nil)) (Zbe h)
  ·refine Sv.skip ?_
   exact Sv.weak (wcn [1] rfl (.cons rfl (.c (lstC_ro (es:=List.map e_TJEntry r_4) rfl (List.length_map e_TJEntry).symm (map_nil_of hz1) (fun b x hx=>not_in (bs:=[1]) rfl b (((.cons (by decide) .nil):HLt _ _) b x hx)) (fr_map fun _=>rfl))) (.cr rfl rfl rfl .nil)) (.box (by decide) rfl (blkAs_cells (.sm rfl (.sm rfl .nil))) .nil)) (Zbe h)
abbrev Zga (how:Int) (t_:TJTrail) (r_1:(Tx×Int)) (F_:Int→Option (TJTrail×Int)) (o:(TJTrail×Int)) (R_:St→Prop):Prop:=∀(x22:Int),F_ x22=some o→∀ s,Weak 0 s ⟨(ue [(14,(.c (.ref 2 3 0 0))),(8,(.c (.ref 1 2 0 0))),(4,(.c (.ref 0 2 0 0))),(1,(I how))]),(upd (upd (upd e0 0 (some (.cells 2 [(e_TJTrail t_)]))) 1 (some (.cells 2 [[.ro true 3 [],cI 0]]))) 2 (some (.cells 3 [[.str r_1.1,.str [],cI x22]]))),3⟩→R_ s
abbrev Zbf (how:Int) (t_:TJTrail) (r_1:(Tx×Int)) (F_:Nat→Int→Int→Option (TJTrail×Int)) (o:(TJTrail×Int)):Nat→St→Prop:=fun k s=>∃(x21:Int),∃(v78:Int),F_ k x21 v78=some o∧s=⟨(ue [(78,(I v78)),(77,(I (t_.Entries.length:Int))),(76,(.c (.ro false 3 (t_.Entries.map e_TJEntry)))),(14,(.c (.ref 2 3 0 0))),(8,(.c (.ref 1 2 0 0))),(4,(.c (.ref 0 2 0 0))),(1,(I how))]),(upd (upd (upd e0 0 (some (.cells 2 [(e_TJTrail t_)]))) 1 (some (.cells 2 [[.ro true 3 [],cI 0]]))) 2 (some (.cells 3 [[.str r_1.1,.str [],cI x21]]))),3⟩
abbrev Zgb (how:Int) (t_:TJTrail) (r_1:(Tx×Int)) (F_:Int→Int→Option (TJTrail×Int)) (o:(TJTrail×Int)) (R_:St→Prop):Prop:=∀(x21:Int) (v78:Int),F_ x21 v78=some o→∀ s,Weak 0 s ⟨(ue [(78,(I v78)),(77,(I (t_.Entries.length:Int))),(76,(.c (.ro false 3 (t_.Entries.map e_TJEntry)))),(14,(.c (.ref 2 3 0 0))),(8,(.c (.ref 1 2 0 0))),(4,(.c (.ref 0 2 0 0))),(1,(I how))]),(upd (upd (upd e0 0 (some (.cells 2 [(e_TJTrail t_)]))) 1 (some (.cells 2 [[.ro true 3 [],cI 0]]))) 2 (some (.cells 3 [[.str r_1.1,.str [],cI x21]]))),3⟩→R_ s
noncomputable def Zr (t_:TJTrail) (how:Int) (r_1:(Tx×Int)) (K0_:Int→Option (TJTrail×Int)):Nat→Int→Int→Option (TJTrail×Int)
 | 0,_,_=>none
 | k+1,x21,v78 =>
  if decide (v78<(t_.Entries.length:Int)) then
   (at? t_.Entries v78).bind fun x_2 =>
   (Zr t_ how r_1 K0_ k) (mx x21 x_2.Doc) (wi (v78+1))
  else
   K0_ x21
theorem Zgc {mL:Int}{Q:AExit→St→Prop}{t_:TJTrail}{how:Int}{r_1:(Tx×Int)}{K0_:Int→Option (TJTrail×Int)}{k:Nat}{x21:Int}{v78:Int}{o:(TJTrail×Int)}(h:Zr t_ how r_1 K0_ k x21 v78=some o)
  (hK0:Zga how t_ r_1 K0_ o (Q (.exit 0)))
  (hr:∀ s,Ends a13.results 0 (Z3q o) .ret s→Q .ret s) :
  Sv Tryz.prog (GG mL) 0 (.loop a13_c1) Q ⟨(ue [(78,(I v78)),(77,(I (t_.Entries.length:Int))),(76,(.c (.ro false 3 (t_.Entries.map e_TJEntry)))),(14,(.c (.ref 2 3 0 0))),(8,(.c (.ref 1 2 0 0))),(4,(.c (.ref 0 2 0 0))),(1,(I how))]),(upd (upd (upd e0 0 (some (.cells 2 [(e_TJTrail t_)]))) 1 (some (.cells 2 [[.ro true 3 [],cI 0]]))) 2 (some (.cells 3 [[.str r_1.1,.str [],cI x21]]))),3⟩:=by
 refine Sv.loop (I:=Zbf how t_ r_1 (Zr t_ how r_1 K0_) o) (fun k s hI=>?_) ⟨x21,v78,h,rfl⟩
 clear h
 clear v78 x21
 obtain ⟨x21,v78,h,rfl⟩:=hI
 cases k with
 | zero=>cases h
 | succ k =>
 rw [Zr] at h
 have hself:Zgb how t_ r_1 (Zr t_ how r_1 K0_ k) o (rnd 0 (Zbf how t_ r_1 (Zr t_ how r_1 K0_) o) k Q):=fun x21 v78 h s hw=>⟨_,k,hw,Nat.lt_succ_self k,x21,v78,h,rfl⟩
 refine ssr<|un1 (v:=(B (decide (v78<(t_.Entries.length:Int))))) rfl<|dnil<|Sv.seq ?_
 refine Sv.cnd rfl h (fun h=>?_) fun h=>?_
 ·refine Sv.skip<|Sv.seq<|Sv.block<|ssr ?_
  obtain ⟨x_2,hx5,h⟩:=bnd h
  refine un1 (v:=(.c (.rop (e_TJEntry x_2)))) (s_iaddr (e:=e_TJEntry) (xs:=t_.Entries) rfl rfl hx5)<|un1 (v:=(.agg (e_TJEntry x_2))) rfl<|un<|a2v (v:=(.c (.ref 3 3 0 0))) (h' := upd _ 3 (some (.cells 3 [[.str [],.str [],cI 0]]))) (n' := 4) rfl rfl hcs<|un<|a2n (h' := upd _ 3 (some (.cells 3 [(e_TJEntry x_2)]))) (n' := 4) rfl rfl hcs<|dnil<|srg<|un1 (v:=(.c (.ref 2 3 0 2))) rfl<|un1 (v:=(I x21)) rfl<|un1 (v:=(.c (.ref 3 3 0 2))) rfl<|un1 (v:=(I x_2.Doc)) rfl<|un1 (v:=(I (mx x21 x_2.Doc))) (s_mx rfl rfl)<|un1 (v:=(.c (.ref 2 3 0 2))) rfl<|un<|a2n (h' := upd _ 2 (some (.cells 3 [[.str r_1.1,.str [],cI (mx x21 x_2.Doc)]]))) (n' := 4) rfl rfl hcs<|dnil<|srg<|un1 (v:=(I (wi (v78+1)))) rfl<|un1 rfl<|dnil ?_
  exact hself (mx x21 x_2.Doc) (wi (v78+1)) h _ (wcn [0,1,2] rfl (.cf rfl rfl (.cf rfl rfl (.cf rfl rfl (.cr rfl rfl rfl (.cr rfl rfl rfl (.cr rfl rfl rfl (.cf rfl rfl .nil))))))) (.box (by decide) rfl (blkAs_cells (.sm rfl (.sm rfl (.sm rfl .nil)))) (.box (by decide) rfl (blkAs_cells (.sm rfl (.sm rfl .nil))) (.box (by decide) rfl (blkAs_cells (.sm rfl (.sm rfl .nil))) .nil))))
 ·refine Sv.exit ?_
  exact hK0 x21 h _ (wcn [0,1,2] rfl (.cr rfl rfl rfl (.cr rfl rfl rfl (.cr rfl rfl rfl (.cf rfl rfl .nil)))) (.box (by decide) rfl (blkAs_cells (.sm rfl (.sm rfl (.sm rfl .nil)))) (.box (by decide) rfl (blkAs_cells (.sm rfl (.sm rfl .nil))) (.box (by decide) rfl (blkAs_cells (.sm rfl (.sm rfl .nil))) .nil))))
abbrev Zgd (mL:Int) (o:(TJTrail×Int)):AExit→St→Prop:=AThen (Sv Tryz.prog (GG mL) 0 a13_c2 (Ends a13.results 0 (Z3q o))) (Ends a13.results 0 (Z3q o))
noncomputable def Z27 (t_:TJTrail) (how:Int) (r_1:(Tx×Int)) (x_:TJEntry) (v73:Bool):Option (TJTrail×Int) :=
 if v73 then
  lim fun kk=>Zr t_ how r_1 (fun (x22:Int) => 
    if decide (1000000<(wi (x22+1))) then
     some ((⟨[],0⟩:TJTrail),2)
    else
     Z26 t_ how r_1 [] (wi (x22+1))) kk (-1) 0
 else
  Z26 t_ how r_1 [] x_.Doc
theorem Zbg {mL:Int}{t_:TJTrail}{how:Int}{r_1:(Tx×Int)}{x_:TJEntry}{v73:Bool}{o:(TJTrail×Int)}(h:Z27 t_ how r_1 x_ v73=some o) :
  Sv Tryz.prog (GG mL) 0 a13_c0 (Zgd mL o) ⟨(ue [(73,(B v73)),(14,(.c (.ref 2 3 0 0))),(8,(.c (.ref 1 2 0 0))),(4,(.c (.ref 0 2 0 0))),(1,(I how))]),(upd (upd (upd e0 0 (some (.cells 2 [(e_TJTrail t_)]))) 1 (some (.cells 2 [[.ro true 3 [],cI 0]]))) 2 (some (.cells 3 [[.str r_1.1,.str [],cI x_.Doc]]))),3⟩:=by
 unfold Z27 at h
 refine Sv.cnd rfl h (fun h=>?_) fun h=>?_
 ·refine ssr<|un1 (v:=(.c (.ref 2 3 0 2))) rfl<|un<|a2n (h' := upd _ 2 (some (.cells 3 [[.str r_1.1,.str [],cI (-1)]]))) (n' := 3) rfl rfl hcs<|dnil<|Sv.seq<|ssr<|un1 (v:=(.c (.ref 0 2 0 0))) rfl<|un1 (v:=(.c (.ro false 3 (t_.Entries.map e_TJEntry)))) rfl<|un1 (v:=(I (t_.Entries.length:Int))) (s_len (e:=e_TJEntry) (xs:=t_.Entries) rfl)<|un1 rfl<|dnil<|Sv.block ?_
  obtain ⟨kk,h⟩:=lim_some h
  refine Sv.weak (wcn [0,1,2] rfl (.cf rfl rfl (.cf rfl rfl (.cf rfl rfl (.cr rfl rfl rfl (.cr rfl rfl rfl (.cr rfl rfl rfl (.cf rfl rfl .nil))))))) (.box (by decide) rfl (blkAs_cells (.sm rfl (.sm rfl (.sm rfl .nil)))) (.box (by decide) rfl (blkAs_cells (.sm rfl (.sm rfl .nil))) (.box (by decide) rfl (blkAs_cells (.sm rfl (.sm rfl .nil))) .nil)))) (Zgc h ?_ (fun s hs=>hs))
  ·intro x22 h _ hw1
   refine Sv.weak hw1<|ssr<|un1 (v:=(.c (.ref 2 3 0 2))) rfl<|un1 (v:=(I x22)) rfl<|un1 (v:=(I (wi (x22+1)))) rfl<|un1 (v:=(.c (.ref 2 3 0 2))) rfl<|un<|a2n (h' := upd _ 2 (some (.cells 3 [[.str r_1.1,.str [],cI (wi (x22+1))]]))) (n' := 3) rfl rfl hcs<|dnil<|ssr<|un1 (v:=(.c (.ref 2 3 0 2))) rfl<|un1 (v:=(I (wi (x22+1)))) rfl<|un1 (v:=(B (decide (1000000<(wi (x22+1)))))) rfl<|dnil ?_
   refine Sv.cnd rfl h (fun h=>?_) fun h=>?_
   ·refine ssr<|un1 (v:=(.agg [.ro true 3 [],cI 0])) rfl<|un<|a2n (h' := upd _ 1 (some (.cells 2 [[.ro true 3 [],cI 0]]))) (n' := 3) rfl rfl hcs<|un1 rfl<|dnil<|Sv.ret ?_
    replace h:=Option.some.inj h
    subst h
    exact ⟨_,.refl _,_,rfl,⟨upd e0 0 (some (.tup [(.agg [.ro false 3 (([]:List TJEntry).map e_TJEntry),cI 0]),(I 2)])),e0,0⟩,(.tup [(.agg [.ro false 3 (([]:List TJEntry).map e_TJEntry),cI 0]),(I 2)]),weak_canon [] rfl ndl nll nlz (.cons rfl (avAs_tup (.cons (avAs_agg (.cons .nil (.sm rfl .nil))) (.cons (avAs_free rfl) .nil))) .nil) .nil,rfl,rfl,rfl,rfl⟩
   ·refine Sv.skip ?_
    exact Sv.weak (wcn [0,1,2] rfl (.cr rfl rfl rfl (.cr rfl rfl rfl (.cr rfl rfl rfl (.cf rfl rfl .nil)))) (.box (by decide) rfl (blkAs_cells (.sm rfl (.sm rfl (.sm rfl .nil)))) (.box (by decide) rfl (blkAs_cells (.sm rfl (.sm rfl .nil))) (.box (by decide) rfl (blkAs_cells (.sm rfl (.sm rfl .nil))) .nil)))) (Z7g h)
 ·refine Sv.skip ?_
  exact Sv.weak (wcn [0,1,2] rfl (.cr rfl rfl rfl (.cr rfl rfl rfl (.cr rfl rfl rfl (.cf rfl rfl .nil)))) (.box (by decide) rfl (blkAs_cells (.sm rfl (.sm rfl (.sm rfl .nil)))) (.box (by decide) rfl (blkAs_cells (.sm rfl (.sm rfl .nil))) (.box (by decide) rfl (blkAs_cells (.sm rfl (.sm rfl .nil))) .nil)))) (Z7g h)
noncomputable def Zs (t_:TJTrail) (how:Int) (ref:Tx) (state:Tx):Option (TJTrail×Int) :=
 (Z2u t_).bind fun r_ =>
 if (!decide (r_=0)) then
  some ((⟨[],0⟩:TJTrail),r_)
 else
  (at? t_.Entries t_.At).bind fun x_ =>
  (Z23 x_.Url ref).bind fun r_1 =>
  if (!decide (r_1.2=0)) then
   some ((⟨[],0⟩:TJTrail),r_1.2)
  else
   if decide (how=1) then
    (Z8 r_1.1 [35]).bind fun r_6 =>
    (Z8 x_.Url [35]).bind fun r_7 =>
    if (!decide (r_6.1=r_7.1)) then
     Z27 t_ how r_1 x_ true
    else
     (Z2j ref [35]).bind fun r_8 =>
     Z27 t_ how r_1 x_ (!r_8)
   else
    (Zq r_1.1).bind fun r_9 =>
    (Zq x_.Url).bind fun r_10 =>
    if decide (2000<(state.length:Int)) then
     some ((⟨[],0⟩:TJTrail),2)
    else
     (Zc r_9.1).bind fun r_11 =>
     (Zc r_10.1).bind fun r_12 =>
     if (!decide (r_11=r_12)) then
      some ((⟨[],0⟩:TJTrail),12)
     else
      Z26 t_ how r_1 state x_.Doc
theorem Zge {mL:Int}{t_:TJTrail}{how:Int}{ref:Tx}{state:Tx}{r:(TJTrail×Int)}(h:Zs t_ how ref state=some r):CPure Tryz.prog (GG mL) 13 [(.agg (e_TJTrail t_)),(I how),(S ref),(S state)] (.tup [(.agg (e_TJTrail r.1)),(I r.2)]):=by
 refine acalls_of_sv hmix c13 (R:=Z3q r) ?_
 unfold Zs at h
 refine ssr<|un<|a2v (v:=(.c (.ref 0 2 0 0))) (h' := upd _ 0 (some (.cells 2 [(e_TJTrail t_)]))) (n' := 1) rfl rfl hcs<|un<|a2v (v:=(.c (.ref 1 2 0 0))) (h' := upd _ 1 (some (.cells 2 [[.ro true 3 [],cI 0]]))) (n' := 2) rfl rfl hcs<|un1 rfl<|dnil<|Sv.seq<|ssr<|un1 (v:=(.agg (e_TJTrail t_))) rfl ?_
 obtain ⟨r_,hr1,h⟩:=bnd h
 refine un<|ac_pure (Z7f hr1) rfl rfl rfl<|un1 rfl<|dnil<|ssr<|un1 rfl<|un1 (v:=(B (!decide (r_=0)))) rfl<|dnil ?_
 refine Sv.cnd rfl h (fun h=>?_) fun h=>?_
 ·refine ssr<|un1 (v:=(.agg [.ro true 3 [],cI 0])) rfl<|un1 rfl<|un<|a2n (h' := upd _ 1 (some (.cells 2 [[.ro true 3 [],cI 0]]))) (n' := 2) rfl rfl hcs<|un1 rfl<|dnil<|Sv.ret ?_
  replace h:=Option.some.inj h
  subst h
  exact ⟨_,.refl _,_,rfl,⟨upd e0 0 (some (.tup [(.agg [.ro false 3 (([]:List TJEntry).map e_TJEntry),cI 0]),(I r_)])),e0,0⟩,(.tup [(.agg [.ro false 3 (([]:List TJEntry).map e_TJEntry),cI 0]),(I r_)]),weak_canon [] rfl ndl nll nlz (.cons rfl (avAs_tup (.cons (avAs_agg (.cons .nil (.sm rfl .nil))) (.cons (avAs_free rfl) .nil))) .nil) .nil,rfl,rfl,rfl,rfl⟩
 ·refine Sv.skip<|ssr<|un1 (v:=(.c (.ref 0 2 0 0))) rfl<|un1 (v:=(.c (.ro false 3 (t_.Entries.map e_TJEntry)))) rfl<|un1 (v:=(.c (.ref 0 2 0 1))) rfl<|un1 (v:=(I t_.At)) rfl ?_
  obtain ⟨x_,hx1,h⟩:=bnd h
  refine un1 (v:=(.c (.rop (e_TJEntry x_)))) (s_iaddr (e:=e_TJEntry) (xs:=t_.Entries) rfl rfl hx1)<|un1 (v:=(.agg (e_TJEntry x_))) rfl<|un<|a2v (v:=(.c (.ref 2 3 0 0))) (h' := upd _ 2 (some (.cells 3 [[.str [],.str [],cI 0]]))) (n' := 3) rfl rfl hcs<|un<|a2n (h' := upd _ 2 (some (.cells 3 [(e_TJEntry x_)]))) (n' := 3) rfl rfl hcs<|dnil<|ssr<|un1 (v:=(.c (.ref 2 3 0 0))) rfl<|un1 (v:=(S x_.Url)) rfl<|un1 rfl ?_
  obtain ⟨r_1,hr2,h⟩:=bnd h
  refine un<|ac_pure (Z7c hr2) rfl rfl rfl<|un1 rfl<|un1 (v:=(S r_1.1)) rfl<|un1 (v:=(I r_1.2)) rfl<|un1 rfl<|un1 rfl<|dnil<|Sv.seq<|ssr<|un1 rfl<|un1 (v:=(B (!decide (r_1.2=0)))) rfl<|dnil ?_
  refine Sv.cnd rfl h (fun h=>?_) fun h=>?_
  ·refine ssr<|un1 (v:=(.agg [.ro true 3 [],cI 0])) rfl<|un1 rfl<|un<|a2n (h' := upd _ 1 (some (.cells 2 [[.ro true 3 [],cI 0]]))) (n' := 3) rfl rfl hcs<|un1 rfl<|dnil<|Sv.ret ?_
   replace h:=Option.some.inj h
   subst h
   exact ⟨_,.refl _,_,rfl,⟨upd e0 0 (some (.tup [(.agg [.ro false 3 (([]:List TJEntry).map e_TJEntry),cI 0]),(I r_1.2)])),e0,0⟩,(.tup [(.agg [.ro false 3 (([]:List TJEntry).map e_TJEntry),cI 0]),(I r_1.2)]),weak_canon [] rfl ndl nll nlz (.cons rfl (avAs_tup (.cons (avAs_agg (.cons .nil (.sm rfl .nil))) (.cons (avAs_free rfl) .nil))) .nil) .nil,rfl,rfl,rfl,rfl⟩
  ·refine Sv.skip<|ssr<|un1 rfl<|un1 (v:=(.c (.ref 2 3 0 2))) rfl<|un1 (v:=(I x_.Doc)) rfl<|un1 (v:=(.agg [.str r_1.1,.str [],cI x_.Doc])) rfl<|un<|a2v (v:=(.c (.ref 3 3 0 0))) (h' := upd _ 3 (some (.cells 3 [[.str [],.str [],cI 0]]))) (n' := 4) rfl rfl hcs<|un<|a2n (h' := upd _ 3 (some (.cells 3 [[.str r_1.1,.str [],cI x_.Doc]]))) (n' := 4) rfl rfl hcs<|dnil<|Sv.seq<|ssr<|un1 rfl<|un1 (v:=(B (decide (how=1)))) rfl<|dnil ?_
   refine Sv.cnd rfl h (fun h=>?_) fun h=>?_
   ·refine ssr<|un1 rfl ?_
    obtain ⟨r_6,hr5,h⟩:=bnd h
    refine un<|ac_pure (Z1w hr5) rfl rfl rfl<|un1 rfl<|un1 (v:=(S r_6.1)) rfl<|un1 (v:=(S r_6.2)) rfl<|un1 rfl<|un1 rfl<|dnil<|ssr<|un1 (v:=(.c (.ref 2 3 0 0))) rfl<|un1 (v:=(S x_.Url)) rfl ?_
    obtain ⟨r_7,hr6,h⟩:=bnd h
    refine un<|ac_pure (Z1w hr6) rfl rfl rfl<|un1 rfl<|un1 (v:=(S r_7.1)) rfl<|un1 (v:=(S r_7.2)) rfl<|un1 rfl<|un1 rfl<|dnil<|ssr<|un1 rfl<|un1 rfl<|un1 (v:=(B (!decide (r_6.1=r_7.1)))) rfl<|un1 rfl ?_
    refine spl h (fun h=>?_) fun h=>?_
    ·refine gs rfl rfl<|gs rfl rfl<|gs rfl rfl<|un1 (v:=(B true)) rfl<|dnil ?_
     exact Sv.weak (wcn [0,1,3] rfl (.cf rfl rfl (.cr rfl rfl rfl (.cr rfl rfl rfl (.cr rfl rfl rfl (.cf rfl rfl .nil))))) (.box (by decide) rfl (blkAs_cells (.sm rfl (.sm rfl (.sm rfl .nil)))) (.box (by decide) rfl (blkAs_cells (.sm rfl (.sm rfl .nil))) (.box (by decide) rfl (blkAs_cells (.sm rfl (.sm rfl .nil))) .nil)))) (Zbg h)
    ·refine gt rfl<|a1 rfl ?_
     obtain ⟨r_8,hr7,h⟩:=bnd h
     refine gt rfl<|ac_pure (Z4m hr7) rfl rfl rfl<|gt rfl<|a1 (v:=(B (!r_8))) rfl<|un1 (v:=(B (!r_8))) rfl<|dnil ?_
     exact Sv.weak (wcn [0,1,3] rfl (.cf rfl rfl (.cr rfl rfl rfl (.cr rfl rfl rfl (.cr rfl rfl rfl (.cf rfl rfl .nil))))) (.box (by decide) rfl (blkAs_cells (.sm rfl (.sm rfl (.sm rfl .nil)))) (.box (by decide) rfl (blkAs_cells (.sm rfl (.sm rfl .nil))) (.box (by decide) rfl (blkAs_cells (.sm rfl (.sm rfl .nil))) .nil)))) (Zbg h)
   ·refine ssr<|un1 rfl<|un1 (v:=(.c (.ref 3 3 0 1))) rfl<|un<|a2n (h' := upd _ 3 (some (.cells 3 [[.str r_1.1,.str state,cI x_.Doc]]))) (n' := 4) rfl rfl hcs<|dnil<|ssr<|un1 rfl ?_
    obtain ⟨r_9,hr8,h⟩:=bnd h
    refine un<|ac_pure (Z2s hr8) rfl rfl rfl<|un1 rfl<|un1 (v:=(.agg [.str r_9.1.Scheme,.str r_9.1.Host,cI r_9.1.Port,.ro false 1 (r_9.1.Path.map eStr),.str r_9.1.Query,cB r_9.1.Asks,.str r_9.1.Fragment,cB r_9.1.Points])) rfl<|un1 (v:=(I r_9.2)) rfl<|un<|a2v (v:=(.c (.ref 4 8 0 0))) (h' := upd _ 4 (some (.cells 8 [[.str [],.str [],cI 0,.ro true 1 [],.str [],cB false,.str [],cB false]]))) (n' := 5) rfl rfl hcs<|un<|a2n (h' := upd _ 4 (some (.cells 8 [[.str r_9.1.Scheme,.str r_9.1.Host,cI r_9.1.Port,.ro false 1 (r_9.1.Path.map eStr),.str r_9.1.Query,cB r_9.1.Asks,.str r_9.1.Fragment,cB r_9.1.Points]]))) (n' := 5) rfl rfl hcs<|un1 rfl<|dnil<|ssr<|un1 (v:=(.c (.ref 2 3 0 0))) rfl<|un1 (v:=(S x_.Url)) rfl ?_
    obtain ⟨r_10,hr9,h⟩:=bnd h
    refine un<|ac_pure (Z2s hr9) rfl rfl rfl<|un1 rfl<|un1 (v:=(.agg [.str r_10.1.Scheme,.str r_10.1.Host,cI r_10.1.Port,.ro false 1 (r_10.1.Path.map eStr),.str r_10.1.Query,cB r_10.1.Asks,.str r_10.1.Fragment,cB r_10.1.Points])) rfl<|un1 (v:=(I r_10.2)) rfl<|un<|a2v (v:=(.c (.ref 5 8 0 0))) (h' := upd _ 5 (some (.cells 8 [[.str [],.str [],cI 0,.ro true 1 [],.str [],cB false,.str [],cB false]]))) (n' := 6) rfl rfl hcs<|un<|a2n (h' := upd _ 5 (some (.cells 8 [[.str r_10.1.Scheme,.str r_10.1.Host,cI r_10.1.Port,.ro false 1 (r_10.1.Path.map eStr),.str r_10.1.Query,cB r_10.1.Asks,.str r_10.1.Fragment,cB r_10.1.Points]]))) (n' := 6) rfl rfl hcs<|un1 rfl<|dnil<|Sv.seq<|ssr<|un1 rfl<|un1 (v:=(I (state.length:Int))) rfl<|un1 (v:=(B (decide (2000<(state.length:Int))))) rfl<|dnil ?_
    refine Sv.cnd rfl h (fun h=>?_) fun h=>?_
    ·refine ssr<|un1 (v:=(.agg [.ro true 3 [],cI 0])) rfl<|un<|a2n (h' := upd _ 1 (some (.cells 2 [[.ro true 3 [],cI 0]]))) (n' := 6) rfl rfl hcs<|un1 rfl<|dnil<|Sv.ret ?_
     replace h:=Option.some.inj h
     subst h
     exact ⟨_,.refl _,_,rfl,⟨upd e0 0 (some (.tup [(.agg [.ro false 3 (([]:List TJEntry).map e_TJEntry),cI 0]),(I 2)])),e0,0⟩,(.tup [(.agg [.ro false 3 (([]:List TJEntry).map e_TJEntry),cI 0]),(I 2)]),weak_canon [] rfl ndl nll nlz (.cons rfl (avAs_tup (.cons (avAs_agg (.cons .nil (.sm rfl .nil))) (.cons (avAs_free rfl) .nil))) .nil) .nil,rfl,rfl,rfl,rfl⟩
    ·refine Sv.skip<|Sv.seq<|Sv.drawn<|un1 (v:=(.agg [.str r_9.1.Scheme,.str r_9.1.Host,cI r_9.1.Port,.ro false 1 (r_9.1.Path.map eStr),.str r_9.1.Query,cB r_9.1.Asks,.str r_9.1.Fragment,cB r_9.1.Points])) rfl<|un1 (v:=(.agg [.str r_10.1.Scheme,.str r_10.1.Host,cI r_10.1.Port,.ro false 1 (r_10.1.Path.map eStr),.str r_10.1.Query,cB r_10.1.Asks,.str r_10.1.Fragment,cB r_10.1.Points])) rfl ?_
     obtain ⟨r_11,hr10,h⟩:=bnd h
     refine un<|ac_pure (Z54 hr10) rfl rfl rfl ?_
     obtain ⟨r_12,hr11,h⟩:=bnd h
     refine un<|ac_pure (Z54 hr11) rfl rfl rfl<|un1 (v:=(B (!decide (r_11=r_12)))) rfl<|dnil ?_
     refine Sv.cnd rfl h (fun h=>?_) fun h=>?_
     ·refine ssr<|un1 (v:=(.agg [.ro true 3 [],cI 0])) rfl<|un<|a2n (h' := upd _ 1 (some (.cells 2 [[.ro true 3 [],cI 0]]))) (n' := 6) rfl rfl hcs<|un1 rfl<|dnil<|Sv.ret ?_
      replace h:=Option.some.inj h
      subst h
      exact ⟨_,.refl _,_,rfl,⟨upd e0 0 (some (.tup [(.agg [.ro false 3 (([]:List TJEntry).map e_TJEntry),cI 0]),(I 12)])),e0,0⟩,(.tup [(.agg [.ro false 3 (([]:List TJEntry).map e_TJEntry),cI 0]),(I 12)]),weak_canon [] rfl ndl nll nlz (.cons rfl (avAs_tup (.cons (avAs_agg (.cons .nil (.sm rfl .nil))) (.cons (avAs_free rfl) .nil))) .nil) .nil,rfl,rfl,rfl,rfl⟩
     ·refine Sv.skip ?_
      exact Sv.weak (wcn [0,1,3] rfl (.cr rfl rfl rfl (.cr rfl rfl rfl (.cr rfl rfl rfl (.cf rfl rfl .nil)))) (.box (by decide) rfl (blkAs_cells (.sm rfl (.sm rfl (.sm rfl .nil)))) (.box (by decide) rfl (blkAs_cells (.sm rfl (.sm rfl .nil))) (.box (by decide) rfl (blkAs_cells (.sm rfl (.sm rfl .nil))) .nil)))) (Z7g h)
def a3_c1:ACode:=(.cond (.tmp 117) (sr [(oP 8 (.mov kF))]
 .ret) .skip)
def a3_c2:ACode:=(.region [(oP 118 (.bin .add (.tmp 89) (kI 1))),(mV 89 118)])
def a3_c3:ACode:=(sr [(oP 90 (.bin .lss (.tmp 89) (.tmp 88)))]
 (.seq (.cond (.tmp 90) .skip (.exit 0))
 (.seq (.block 1 (sr [(mV 91 89),(oP 92 (.iaddr 2 (.tmp 87) (.tmp 89))),(oP 93 (.load true 2 (.tmp 92))),(oP 24 (.box (.const (.agg [(.ro true 3 []),(.val (.int .i64 0))])))),(mV 23 91),(oN (.store 2 (.tmp 24) (.tmp 93)))]
 (sr [(oP 95 (.load true 2 (.tmp 4))),(mV 96 23),(oP 97 (.bin .add (.tmp 96) (kI 1))),(mV 98 1),(mV 99 2),(oP 100 (.call 13 [(.tmp 95),(.tmp 97),(.tmp 98),(.tmp 99)])),(mV 94 100),(oP 101 (.ext (.tmp 94) 0)),(oP 102 (.ext (.tmp 94) 1)),(oN (.store 2 (.tmp 22) (.tmp 101))),(mV 21 102)]
 (sr [(oP 103 (.load true 2 (.tmp 24))),(oP 104 (.load true 2 (.tmp 22))),(oP 105 (.call 12 [(.tmp 103),(.tmp 104)])),(oP 106 (.un .not (.tmp 105))),(mV 107 106),⟨(some 108),(.mov (.tmp 12)),(some (107,false))⟩,⟨(some 109),(.mov (.tmp 14)),(some (107,false))⟩,⟨(some 110),(.mov (.tmp 16)),(some (107,false))⟩,⟨(some 111),(.bslice 1 [(.val (.int .i64 0))] 3 [(0,(.tmp 108)),(1,(.tmp 109)),(2,(.tmp 110))]),(some (107,false))⟩,⟨(some 112),(.mov (.tmp 23)),(some (107,false))⟩,⟨(some 113),(.iaddr 1 (.tmp 111) (.tmp 112)),(some (107,false))⟩,⟨(some 114),(.load false 1 (.tmp 113)),(some (107,false))⟩,⟨(some 115),(.mov (.tmp 21)),(some (107,false))⟩,⟨(some 116),(.bin .neq (.tmp 114) (.tmp 115)),(some (107,false))⟩,(oP 117 (.pick (.tmp 107) kT (.tmp 116)))]
 a3_c1))))
 a3_c2)))
def a3_c5:ACode:=.ret
def a3_c4:ACode:=(.seq (sr [(mV 138 21),(oP 139 (.bin .neq (.tmp 138) (kI 0)))]
 (.cond (.tmp 139) (sr [(oP 140 (.load true 2 (.tmp 17))),(oP 141 (.build [(.ro true 3 []),(.val (.int .i64 0))] [])),(oP 142 (.call 12 [(.tmp 140),(.tmp 141)])),(mV 143 142),⟨(some 144),(.mov (.tmp 18)),(some (143,true))⟩,⟨(some 145),(.un .not (.tmp 144)),(some (143,true))⟩,(oP 146 (.pick (.tmp 143) (.tmp 145) kF)),(mV 147 146),⟨(some 148),(.mov (.tmp 19)),(some (147,true))⟩,⟨(some 149),(.mov (.tmp 21)),(some (147,true))⟩,⟨(some 150),(.bin .eql (.tmp 148) (.tmp 149)),(some (147,true))⟩,(oP 151 (.pick (.tmp 147) (.tmp 150) kF)),(mV 8 151)]
 .ret) .skip))
 (sr [(oP 152 (.faddr 0 (.tmp 4))),(oP 153 (.load false 1 (.tmp 152))),(oP 154 (.faddr 1 (.tmp 4))),(oP 155 (.load false 1 (.tmp 154))),(mV 156 3),(oP 157 (.bin .add (.tmp 155) (.tmp 156))),(oP 158 (.build [(.ro true 3 []),(.val (.int .i64 0))] [(0,(1,(.tmp 153))),(1,(1,(.tmp 157)))])),(oN (.store 2 (.tmp 22) (.tmp 158)))]
 (.seq (.drawn (.fin [((oP 159 (.load true 2 (.tmp 17))),(0,0)),((oP 160 (.load true 2 (.tmp 22))),(0,1)),((oP 161 (.call 12 [(.tmp 159),(.tmp 160)])),(1,2)),((mV 162 161),(0,3)),(⟨(some 163),(.mov (.tmp 18)),(some (162,true))⟩,(0,4)),(⟨(some 164),(.faddr 0 (.tmp 4)),(some (162,true))⟩,(0,5)),(⟨(some 165),(.load false 1 (.tmp 164)),(some (162,true))⟩,(0,6)),(⟨(some 166),(.faddr 1 (.tmp 4)),(some (162,true))⟩,(0,7)),(⟨(some 167),(.load false 1 (.tmp 166)),(some (162,true))⟩,(0,8)),(⟨(some 168),(.mov (.tmp 3)),(some (162,true))⟩,(0,9)),(⟨(some 169),(.bin .add (.tmp 167) (.tmp 168)),(some (162,true))⟩,(0,10)),(⟨(some 170),(.iaddr 3 (.tmp 165) (.tmp 169)),(some (162,true))⟩,(0,11)),(⟨(some 171),(.faddr 2 (.tmp 170)),(some (162,true))⟩,(0,12)),(⟨(some 172),(.load false 1 (.tmp 171)),(some (162,true))⟩,(0,13)),(⟨(some 173),(.faddr 0 (.tmp 4)),(some (162,true))⟩,(0,14)),(⟨(some 174),(.load false 1 (.tmp 173)),(some (162,true))⟩,(0,15)),(⟨(some 175),(.faddr 1 (.tmp 4)),(some (162,true))⟩,(0,16)),(⟨(some 176),(.load false 1 (.tmp 175)),(some (162,true))⟩,(0,17)),(⟨(some 177),(.iaddr 3 (.tmp 174) (.tmp 176)),(some (162,true))⟩,(0,18)),(⟨(some 178),(.faddr 2 (.tmp 177)),(some (162,true))⟩,(0,19)),(⟨(some 179),(.load false 1 (.tmp 178)),(some (162,true))⟩,(0,20)),(⟨(some 180),(.bin .neq (.tmp 172) (.tmp 179)),(some (162,true))⟩,(0,21)),(⟨(some 181),(.eqs false false [.b] (.tmp 163) (.tmp 180)),(some (162,true))⟩,(0,22)),((oP 182 (.pick (.tmp 162) (.tmp 181) kF)),(0,23)),((mV 183 182),(0,24)),(⟨(some 184),(.mov (.tmp 19)),(some (183,true))⟩,(0,25)),(⟨(some 185),(.bin .eql (.tmp 184) (kI 0)),(some (183,true))⟩,(0,26)),((oP 186 (.pick (.tmp 183) (.tmp 185) kF)),(0,27)),((mV 8 186),(0,28))]))
 a3_c5)))
def a3_c0:ACode:=(.seq (sr [(oP 80 (.load true 2 (.tmp 9))),(oP 81 (.load true 2 (.tmp 22))),(oP 82 (.call 12 [(.tmp 80),(.tmp 81)])),(oP 83 (.un .not (.tmp 82)))]
 (.cond (.tmp 83) (sr [(oP 8 (.mov kF))]
 .ret) .skip))
 (.seq (sr [(oP 84 (.load true 2 (.tmp 11))),(oP 85 (.load true 2 (.tmp 13))),(oP 86 (.load true 2 (.tmp 15))),(oP 87 (.bslice 2 [(.ro true 3 []),(.val (.int .i64 0))] 3 [(0,(.tmp 84)),(1,(.tmp 85)),(2,(.tmp 86))])),(oP 88 (.len (.tmp 87))),(oP 89 (.mov (kI 0)))]
 (.block 0 (.loop a3_c3)))
 (sr [(oP 119 (.load true 2 (.tmp 4))),(oP 120 (.call 11 [(.tmp 119)])),(mV 21 120)]
 (.seq (sr [(mV 121 21),(oP 122 (.bin .eql (.tmp 121) (kI 0))),(mV 123 122),⟨(some 124),(.mov (.tmp 3)),(some (123,true))⟩,⟨(some 125),(.faddr 1 (.tmp 4)),(some (123,true))⟩,⟨(some 126),(.load false 1 (.tmp 125)),(some (123,true))⟩,⟨(some 127),(.un .neg (.tmp 126)),(some (123,true))⟩,⟨(some 128),(.faddr 0 (.tmp 4)),(some (123,true))⟩,⟨(some 129),(.load false 1 (.tmp 128)),(some (123,true))⟩,⟨(some 130),(.len (.tmp 129)),(some (123,true))⟩,⟨(some 131),(.bin .sub (.tmp 130) (kI 1)),(some (123,true))⟩,⟨(some 132),(.faddr 1 (.tmp 4)),(some (123,true))⟩,⟨(some 133),(.load false 1 (.tmp 132)),(some (123,true))⟩,⟨(some 134),(.bin .sub (.tmp 131) (.tmp 133)),(some (123,true))⟩,⟨(some 135),(.call 14 [(.tmp 124),(.tmp 127),(.tmp 134)]),(some (123,true))⟩,⟨(some 136),(.un .not (.tmp 135)),(some (123,true))⟩,(oP 137 (.pick (.tmp 123) (.tmp 136) kF))]
 (.cond (.tmp 137) (.region [(oP 21 (.mov (kI 5)))]) .skip))
 a3_c4))))
def a3:AFunc:=⟨4,[(.tmp 8)],(sr [(oP 4 (.box (.tmp 0))),(oP 8 (.mov kF))]
 (sr [(mV 26 1),(oP 27 (.call 4 [(.tmp 26)])),(mV 25 27),(oP 28 (.ext (.tmp 25) 0)),(oP 29 (.ext (.tmp 25) 1)),(oP 9 (.box (.const (.agg [(.ro true 3 []),(.val (.int .i64 0))])))),(oN (.store 2 (.tmp 9) (.tmp 28))),(mV 10 29)]
 (sr [(oP 31 (.load true 2 (.tmp 4))),(mV 32 1),(oP 33 (.call 5 [(.tmp 31),(.tmp 32)])),(mV 30 33),(oP 34 (.ext (.tmp 30) 0)),(oP 35 (.ext (.tmp 30) 1)),(oP 11 (.box (.const (.agg [(.ro true 3 []),(.val (.int .i64 0))])))),(oN (.store 2 (.tmp 11) (.tmp 34))),(mV 12 35)]
 (sr [(oP 37 (.load true 2 (.tmp 4))),(mV 38 1),(mV 39 2),(oP 40 (.call 6 [(.tmp 37),(.tmp 38),(.tmp 39)])),(mV 36 40),(oP 41 (.ext (.tmp 36) 0)),(oP 42 (.ext (.tmp 36) 1)),(oP 13 (.box (.const (.agg [(.ro true 3 []),(.val (.int .i64 0))])))),(oN (.store 2 (.tmp 13) (.tmp 41))),(mV 14 42)]
 (sr [(oP 44 (.load true 2 (.tmp 4))),(mV 45 1),(mV 46 2),(oP 47 (.call 7 [(.tmp 44),(.tmp 45),(.tmp 46)])),(mV 43 47),(oP 48 (.ext (.tmp 43) 0)),(oP 49 (.ext (.tmp 43) 1)),(oP 15 (.box (.const (.agg [(.ro true 3 []),(.val (.int .i64 0))])))),(oN (.store 2 (.tmp 15) (.tmp 48))),(mV 16 49)]
 (sr [(oP 51 (.load true 2 (.tmp 4))),(mV 52 3),(oP 53 (.call 8 [(.tmp 51),(.tmp 52)])),(mV 50 53),(oP 54 (.ext (.tmp 50) 0)),(oP 55 (.ext (.tmp 50) 1)),(oP 56 (.ext (.tmp 50) 2)),(oP 17 (.box (.const (.agg [(.ro true 3 []),(.val (.int .i64 0))])))),(oN (.store 2 (.tmp 17) (.tmp 54))),(mV 18 55),(mV 19 56)]
 (sr [(mV 58 1),(mV 59 1),(oP 60 (.call 9 [(.tmp 58),(.tmp 59)])),(mV 57 60),(oP 61 (.ext (.tmp 57) 0)),(oP 62 (.ext (.tmp 57) 1)),(mV 20 61),(mV 21 62)]
 (.seq (.seq (.drawn (.fin [((oP 63 (.load true 2 (.tmp 4))),(0,0)),((oP 65 (.load true 2 (.tmp 4))),(0,2)),((oP 64 (.call 10 [(.tmp 63)])),(1,1)),((oP 66 (.call 11 [(.tmp 65)])),(2,3)),((oP 67 (.bin .neq (.tmp 64) (.tmp 66))),(0,4)),((mV 68 67),(0,5)),(⟨(some 69),(.mov (.tmp 10)),(some (68,false))⟩,(0,6)),(⟨(some 70),(.mov (.tmp 21)),(some (68,false))⟩,(0,7)),(⟨(some 71),(.bin .neq (.tmp 69) (.tmp 70)),(some (68,false))⟩,(0,8)),((oP 72 (.pick (.tmp 68) kT (.tmp 71))),(0,9))]))
 (.cond (.tmp 72) (sr [(oP 8 (.mov kF))]
 .ret) .skip))
 (sr [(oP 73 (.build [(.ro true 3 []),(.val (.int .i64 0))] [])),(oP 22 (.box (.const (.agg [(.ro true 3 []),(.val (.int .i64 0))])))),(oN (.store 2 (.tmp 22) (.tmp 73)))]
 (.seq (sr [(mV 74 21),(oP 75 (.bin .eql (.tmp 74) (kI 0)))]
 (.cond (.tmp 75) (.region [(mV 76 20),(oP 77 (.build [(.str []),(.str []),(.val (.int .i64 0))] [(0,(1,(.tmp 76)))])),(oP 78 (.bslice 3 [(.str []),(.str []),(.val (.int .i64 0))] 1 [(0,(.tmp 77))])),(oP 79 (.faddr 0 (.tmp 22))),(oN (.store 1 (.tmp 79) (.tmp 78)))]) .skip))
 a3_c0))))))))))⟩
theorem c3:compFunc Tryz.prog 3=some a3:=by kernel_rfl
def Z3s (r:Bool):AV→Heap→Nat→Prop:=fun v h' n' => v=(B r)∧(h' = e0)∧n' = 0
abbrev Zgf (mL:Int) (Q:AExit→St→Prop):AExit→St→Prop:=AThen (Sv Tryz.prog (GG mL) 0 a3_c2 Q) Q
abbrev Zgg (mL:Int) (Q:AExit→St→Prop):AExit→St→Prop:=ABlock 1 (Zgf mL Q)
abbrev Zbh (ref:Tx) (state:Tx) (n_:Int) (r_1:(TJTrail×Int)) (r_2:(TJTrail×Int)) (r_3:(TJTrail×Int)) (r_4:(TJTrail×Bool×Int)) (t_:TJTrail) (F_:(List TJEntry)→Int→(List TJTrail)→Int→Option Bool) (o:Bool) (R_:St→Prop):Prop:=∀(want01:(List TJEntry)) (want1:Int) (v87:(List TJTrail)) (v89:Int) (zv87:Bool) (_:zv87=true→v87=[]),F_ want01 want1 v87 v89=some o→∀ s,Weak 0 s ⟨(ue [(89,(I v89)),(88,(I ([r_1.1,r_2.1,r_3.1].length:Int))),(87,(lstV zv87 3 2 v87.length)),(22,(.c (.ref 2 2 0 0))),(19,(I r_4.2.2)),(18,(B r_4.2.1)),(17,(.c (.ref 1 2 0 0))),(16,(I r_3.2)),(14,(I r_2.2)),(12,(I r_1.2)),(4,(.c (.ref 0 2 0 0))),(3,(I n_)),(2,(S state)),(1,(S ref))]),(upd (upd (upd (upd e0 0 (some (.cells 2 [(e_TJTrail t_)]))) 1 (some (.cells 2 [(e_TJTrail r_4.1)]))) 2 (some (.cells 2 [[.ro false 3 (want01.map e_TJEntry),cI want1]]))) 3 (lstB zv87 2 (v87.map e_TJTrail))),4⟩→R_ s
abbrev Zbi (n_:Int) (r_4:(TJTrail×Bool×Int)) (t_:TJTrail) (F_:(List TJEntry)→Int→Option Bool) (o:Bool) (R_:St→Prop):Prop:=∀(want02:(List TJEntry)) (want11:Int),F_ want02 want11=some o→∀ s,Weak 0 s ⟨(ue [(22,(.c (.ref 2 2 0 0))),(19,(I r_4.2.2)),(18,(B r_4.2.1)),(17,(.c (.ref 1 2 0 0))),(4,(.c (.ref 0 2 0 0))),(3,(I n_))]),(upd (upd (upd e0 0 (some (.cells 2 [(e_TJTrail t_)]))) 1 (some (.cells 2 [(e_TJTrail r_4.1)]))) 2 (some (.cells 2 [[.ro false 3 (want02.map e_TJEntry),cI want11]]))),3⟩→R_ s
noncomputable def Z2v (r_9:(TJTrail×Int)) (v89:Int) (ref:Tx) (state:Tx) (n_:Int) (r_1:(TJTrail×Int)) (r_2:(TJTrail×Int)) (r_3:(TJTrail×Int)) (r_4:(TJTrail×Bool×Int)) (t_:TJTrail) (self:(List TJEntry)→Int→(List TJTrail)→Int→Option Bool) (K0_:(List TJEntry)→Int→Option Bool) (v871:(List TJTrail)) (v117:Bool):Option Bool :=
 if v117 then
  some false
 else
  self r_9.1.Entries r_9.1.At v871 (wi (v89+1))
theorem Zbj {mL:Int}{Q:AExit→St→Prop}{r_9:(TJTrail×Int)}{v89:Int}{ref:Tx}{state:Tx}{n_:Int}{r_1:(TJTrail×Int)}{r_2:(TJTrail×Int)}{r_3:(TJTrail×Int)}{r_4:(TJTrail×Bool×Int)}{t_:TJTrail}{self:(List TJEntry)→Int→(List TJTrail)→Int→Option Bool}{K0_:(List TJEntry)→Int→Option Bool}{v871:(List TJTrail)}{v117:Bool}{zv871:Bool}(hzv871:zv871=true→v871=[]) {o:Bool}(h:Z2v r_9 v89 ref state n_ r_1 r_2 r_3 r_4 t_ self K0_ v871 v117=some o)
  (hself:Zbh ref state n_ r_1 r_2 r_3 r_4 t_ self o (Q .normal))
  (hK0:Zbi n_ r_4 t_ K0_ o (Q (.exit 0)))
  (hr:∀ s,Ends a3.results 0 (Z3s o) .ret s→Q .ret s) :
  Sv Tryz.prog (GG mL) 0 a3_c1 (Zgg mL Q) ⟨(ue [(117,(B v117)),(89,(I v89)),(88,(I ([r_1.1,r_2.1,r_3.1].length:Int))),(87,(lstV zv871 3 2 v871.length)),(22,(.c (.ref 2 2 0 0))),(19,(I r_4.2.2)),(18,(B r_4.2.1)),(17,(.c (.ref 1 2 0 0))),(16,(I r_3.2)),(14,(I r_2.2)),(12,(I r_1.2)),(4,(.c (.ref 0 2 0 0))),(3,(I n_)),(2,(S state)),(1,(S ref))]),(upd (upd (upd (upd e0 0 (some (.cells 2 [(e_TJTrail t_)]))) 1 (some (.cells 2 [(e_TJTrail r_4.1)]))) 2 (some (.cells 2 [(e_TJTrail r_9.1)]))) 3 (lstB zv871 2 (v871.map e_TJTrail))),4⟩:=by
 unfold Z2v at h
 refine Sv.cnd rfl h (fun h=>?_) fun h=>?_
 ·refine ssr<|un1 rfl<|dnil<|Sv.ret ?_
  exact hr _ (rt0 h rfl rfl ⟨rfl,rfl,rfl⟩)
 ·refine Sv.skip<|srg<|un1 (v:=(I (wi (v89+1)))) rfl<|un1 rfl<|dnil ?_
  exact hself r_9.1.Entries r_9.1.At v871 (wi (v89+1)) zv871 hzv871 h _ (wcn [0,1,2,3] rfl (.cf rfl rfl (.cf rfl rfl (.cons rfl (.c (lsr rfl rfl)) (.cr rfl rfl rfl (.cf rfl rfl (.cf rfl rfl (.cr rfl rfl rfl (.cf rfl rfl (.cf rfl rfl (.cf rfl rfl (.cr rfl rfl rfl (.cf rfl rfl (.cf rfl rfl (.cf rfl rfl .nil)))))))))))))) (.row (by decide) rfl (fr_map fun _=>rfl) (.box (by decide) rfl (blkAs_cells (.sm rfl (.sm rfl .nil))) (.box (by decide) rfl (blkAs_cells (.sm rfl (.sm rfl .nil))) (.box (by decide) rfl (blkAs_cells (.sm rfl (.sm rfl .nil))) .nil)))))
abbrev Zbk (ref:Tx) (state:Tx) (n_:Int) (r_1:(TJTrail×Int)) (r_2:(TJTrail×Int)) (r_3:(TJTrail×Int)) (r_4:(TJTrail×Bool×Int)) (t_:TJTrail) (F_:Nat→(List TJEntry)→Int→(List TJTrail)→Int→Option Bool) (o:Bool):Nat→St→Prop:=fun k s=>∃(want01:(List TJEntry)),∃(want1:Int),∃(v87:(List TJTrail)),∃(v89:Int),∃(zv87:Bool),(zv87=true→v87=[])∧F_ k want01 want1 v87 v89=some o∧s=⟨(ue [(89,(I v89)),(88,(I ([r_1.1,r_2.1,r_3.1].length:Int))),(87,(lstV zv87 3 2 v87.length)),(22,(.c (.ref 2 2 0 0))),(19,(I r_4.2.2)),(18,(B r_4.2.1)),(17,(.c (.ref 1 2 0 0))),(16,(I r_3.2)),(14,(I r_2.2)),(12,(I r_1.2)),(4,(.c (.ref 0 2 0 0))),(3,(I n_)),(2,(S state)),(1,(S ref))]),(upd (upd (upd (upd e0 0 (some (.cells 2 [(e_TJTrail t_)]))) 1 (some (.cells 2 [(e_TJTrail r_4.1)]))) 2 (some (.cells 2 [[.ro false 3 (want01.map e_TJEntry),cI want1]]))) 3 (lstB zv87 2 (v87.map e_TJTrail))),4⟩
noncomputable def Zh (r_1:(TJTrail×Int)) (r_2:(TJTrail×Int)) (r_3:(TJTrail×Int)) (t_:TJTrail) (ref:Tx) (state:Tx) (n_:Int) (r_4:(TJTrail×Bool×Int)) (K0_:(List TJEntry)→Int→Option Bool):Nat→(List TJEntry)→Int→(List TJTrail)→Int→Option Bool
 | 0,_,_,_,_=>none
 | k+1,want01,want1,v87,v89 =>
  if decide (v89<([r_1.1,r_2.1,r_3.1].length:Int)) then
   (at? v87 v89).bind fun x_ =>
   (Zs t_ (wi (v89+1)) ref state).bind fun r_9 =>
   (Z25 x_ r_9.1).bind fun r_10 =>
   if (!r_10) then
    Z2v r_9 v89 ref state n_ r_1 r_2 r_3 r_4 t_ (Zh r_1 r_2 r_3 t_ ref state n_ r_4 K0_ k) K0_ v87 true
   else
    (at? [r_1.2,r_2.2,r_3.2] v89).bind fun x_1 =>
    Z2v r_9 v89 ref state n_ r_1 r_2 r_3 r_4 t_ (Zh r_1 r_2 r_3 t_ ref state n_ r_4 K0_ k) K0_ v87 (!decide (x_1=r_9.2))
  else
   K0_ want01 want1
theorem Zgh {mL:Int}{Q:AExit→St→Prop}{r_1:(TJTrail×Int)}{r_2:(TJTrail×Int)}{r_3:(TJTrail×Int)}{t_:TJTrail}{ref:Tx}{state:Tx}{n_:Int}{r_4:(TJTrail×Bool×Int)}{K0_:(List TJEntry)→Int→Option Bool}{k:Nat}{want01:(List TJEntry)}{want1:Int}{v87:(List TJTrail)}{v89:Int}{zv87:Bool}(hzv87:zv87=true→v87=[]) {o:Bool}(h:Zh r_1 r_2 r_3 t_ ref state n_ r_4 K0_ k want01 want1 v87 v89=some o)
  (hK0:Zbi n_ r_4 t_ K0_ o (Q (.exit 0)))
  (hr:∀ s,Ends a3.results 0 (Z3s o) .ret s→Q .ret s) :
  Sv Tryz.prog (GG mL) 0 (.loop a3_c3) Q ⟨(ue [(89,(I v89)),(88,(I ([r_1.1,r_2.1,r_3.1].length:Int))),(87,(lstV zv87 3 2 v87.length)),(22,(.c (.ref 2 2 0 0))),(19,(I r_4.2.2)),(18,(B r_4.2.1)),(17,(.c (.ref 1 2 0 0))),(16,(I r_3.2)),(14,(I r_2.2)),(12,(I r_1.2)),(4,(.c (.ref 0 2 0 0))),(3,(I n_)),(2,(S state)),(1,(S ref))]),(upd (upd (upd (upd e0 0 (some (.cells 2 [(e_TJTrail t_)]))) 1 (some (.cells 2 [(e_TJTrail r_4.1)]))) 2 (some (.cells 2 [[.ro false 3 (want01.map e_TJEntry),cI want1]]))) 3 (lstB zv87 2 (v87.map e_TJTrail))),4⟩:=by
 refine Sv.loop (I:=Zbk ref state n_ r_1 r_2 r_3 r_4 t_ (Zh r_1 r_2 r_3 t_ ref state n_ r_4 K0_) o) (fun k s hI=>?_) ⟨want01,want1,v87,v89,zv87,hzv87,h,rfl⟩
 clear h
 clear hzv87 zv87 v89 v87 want1 want01
 obtain ⟨want01,want1,v87,v89,zv87,hzv87,h,rfl⟩:=hI
 cases k with
 | zero=>cases h
 | succ k =>
 rw [Zh] at h
 have hself:Zbh ref state n_ r_1 r_2 r_3 r_4 t_ (Zh r_1 r_2 r_3 t_ ref state n_ r_4 K0_ k) o (rnd 0 (Zbk ref state n_ r_1 r_2 r_3 r_4 t_ (Zh r_1 r_2 r_3 t_ ref state n_ r_4 K0_) o) k Q):=fun want01 want1 v87 v89 zv87 hzv87 h s hw=>⟨_,k,hw,Nat.lt_succ_self k,want01,want1,v87,v89,zv87,hzv87,h,rfl⟩
 refine ssr<|un1 (v:=(B (decide (v89<([r_1.1,r_2.1,r_3.1].length:Int))))) rfl<|dnil<|Sv.seq ?_
 refine Sv.cnd rfl h (fun h=>?_) fun h=>?_
 ·refine Sv.skip<|Sv.seq<|Sv.block<|ssr<|un1 rfl ?_
  obtain ⟨x_,hx1,h⟩:=bnd h
  refine un1 (v:=(.c (.ref 3 2 v89.toNat 0))) (s_iaddrL rfl rfl hzv87 hx1)<|un1 (v:=(.agg (e_TJTrail x_))) (s_loadL (z:=zv87) (e:=e_TJTrail) rfl rfl hzv87 hx1 rfl rfl)<|un<|a2v (v:=(.c (.ref 4 2 0 0))) (h' := upd _ 4 (some (.cells 2 [[.ro true 3 [],cI 0]]))) (n' := 5) rfl rfl hcs<|un1 rfl<|un<|a2n (h' := upd _ 4 (some (.cells 2 [(e_TJTrail x_)]))) (n' := 5) rfl rfl hcs<|dnil<|ssr<|un1 (v:=(.agg (e_TJTrail t_))) rfl<|un1 rfl<|un1 (v:=(I (wi (v89+1)))) rfl<|un1 rfl<|un1 rfl ?_
  obtain ⟨r_9,hr10,h⟩:=bnd h
  refine un<|ac_pure (Zge hr10) rfl rfl rfl<|un1 rfl<|un1 (v:=(.agg (e_TJTrail r_9.1))) rfl<|un1 (v:=(I r_9.2)) rfl<|un<|a2n (h' := upd _ 2 (some (.cells 2 [(e_TJTrail r_9.1)]))) (n' := 5) rfl rfl hcs<|un1 rfl<|dnil<|ssr<|un1 (v:=(.agg (e_TJTrail x_))) rfl<|un1 (v:=(.agg (e_TJTrail r_9.1))) rfl ?_
  obtain ⟨r_10,hr11,h⟩:=bnd h
  refine un<|ac_pure (Z63 hr11) rfl rfl rfl<|un1 (v:=(B (!r_10))) rfl<|un1 rfl ?_
  refine spl h (fun h=>?_) fun h=>?_
  ·repeat (first | refine gu rfl ?_ | refine gs rfl rfl ?_)
   refine un1 (v:=(B true)) rfl<|dnil ?_
   exact Sv.weak (wcn [0,1,2,3] rfl (.cf rfl rfl (.cf rfl rfl (.cf rfl rfl (.cons rfl (.c (lsr rfl rfl)) (.cr rfl rfl rfl (.cf rfl rfl (.cf rfl rfl (.cr rfl rfl rfl (.cf rfl rfl (.cf rfl rfl (.cf rfl rfl (.cr rfl rfl rfl (.cf rfl rfl (.cf rfl rfl (.cf rfl rfl .nil))))))))))))))) (.row (by decide) rfl (fr_map fun _=>rfl) (.box (by decide) rfl (blkAs_cells (.sm rfl (.sm rfl .nil))) (.box (by decide) rfl (blkAs_cells (.sm rfl (.sm rfl .nil))) (.box (by decide) rfl (blkAs_cells (.sm rfl (.sm rfl .nil))) .nil))))) (Zbj hzv87 h hself hK0 hr)
  ·refine gt rfl<|a1 rfl<|gt rfl<|a1 rfl<|gt rfl<|a1 rfl<|gt rfl<|a2v (v:=(lstV false 5 1 [r_1.2,r_2.2,r_3.2].length)) (h' := upd _ 5 (lstB false 1 ([r_1.2,r_2.2,r_3.2].map eI))) (n' := 6) rfl rfl hcs<|gt rfl<|a1 rfl ?_
   obtain ⟨x_1,hx2,h⟩:=bnd h
   refine gt rfl<|a1 (v:=(.c (.ref 5 1 v89.toNat 0))) (s_iaddrL rfl rfl hcs hx2)<|gt rfl<|a1 (v:=(I x_1)) (s_loadL (z:=false) (e:=eI) rfl rfl hcs hx2 rfl rfl)<|gt rfl<|a1 rfl<|gt rfl<|a1 (v:=(B (!decide (x_1=r_9.2)))) rfl<|un1 (v:=(B (!decide (x_1=r_9.2)))) rfl<|dnil ?_
   exact Sv.weak (wcn [0,1,2,3] rfl (.cf rfl rfl (.cf rfl rfl (.cf rfl rfl (.cons rfl (.c (lsr rfl rfl)) (.cr rfl rfl rfl (.cf rfl rfl (.cf rfl rfl (.cr rfl rfl rfl (.cf rfl rfl (.cf rfl rfl (.cf rfl rfl (.cr rfl rfl rfl (.cf rfl rfl (.cf rfl rfl (.cf rfl rfl .nil))))))))))))))) (.row (by decide) rfl (fr_map fun _=>rfl) (.box (by decide) rfl (blkAs_cells (.sm rfl (.sm rfl .nil))) (.box (by decide) rfl (blkAs_cells (.sm rfl (.sm rfl .nil))) (.box (by decide) rfl (blkAs_cells (.sm rfl (.sm rfl .nil))) .nil))))) (Zbj hzv87 h hself hK0 hr)
 ·refine Sv.exit ?_
  exact hK0 want01 want1 h _ (wcn [0,1,2] rfl (.cr rfl rfl rfl (.cf rfl rfl (.cf rfl rfl (.cr rfl rfl rfl (.cr rfl rfl rfl (.cf rfl rfl .nil)))))) (.box (by decide) rfl (blkAs_cells (.sm rfl (.sm rfl .nil))) (.box (by decide) rfl (blkAs_cells (.sm rfl (.sm rfl .nil))) (.box (by decide) rfl (blkAs_cells (.sm rfl (.sm rfl .nil))) .nil))))
noncomputable def Z58 (v8:Bool):Option Bool :=
 some v8
theorem Zbl {mL:Int}{v8:Bool}{o:Bool}(h:Z58 v8=some o) :
  Sv Tryz.prog (GG mL) 0 a3_c5 (Ends a3.results 0 (Z3s o)) ⟨(upd e0 8 (some (B v8))),e0,0⟩:=by
 unfold Z58 at h
 refine Sv.ret ?_
 exact rt0 h rfl rfl ⟨rfl,rfl,rfl⟩
noncomputable def Zt (r_4:(TJTrail×Bool×Int)) (t_:TJTrail) (n_:Int) (want02:(List TJEntry)) (want11:Int) (say:Int):Option Bool :=
 if (!decide (say=0)) then
  (Z25 r_4.1 (⟨[],0⟩:TJTrail)).bind fun r_12 =>
  some ((r_12&&(!r_4.2.1))&&(decide (r_4.2.2=say)))
 else
  (Z25 r_4.1 (⟨t_.Entries,(wi (t_.At+n_))⟩:TJTrail)).bind fun r_13 =>
  if r_13 then
   (at? t_.Entries (wi (t_.At+n_))).bind fun x_2 =>
   (at? t_.Entries t_.At).bind fun x_3 =>
   Z58 (((r_4.2.1 == (!decide (x_2.Doc=x_3.Doc)))&&true)&&(decide (r_4.2.2=0)))
  else
   Z58 false
theorem Zbm {mL:Int}{r_4:(TJTrail×Bool×Int)}{t_:TJTrail}{n_:Int}{want02:(List TJEntry)}{want11:Int}{say:Int}{o:Bool}(h:Zt r_4 t_ n_ want02 want11 say=some o) :
  Sv Tryz.prog (GG mL) 0 a3_c4 (Ends a3.results 0 (Z3s o)) ⟨(ue [(22,(.c (.ref 2 2 0 0))),(21,(I say)),(19,(I r_4.2.2)),(18,(B r_4.2.1)),(17,(.c (.ref 1 2 0 0))),(4,(.c (.ref 0 2 0 0))),(3,(I n_))]),(upd (upd (upd e0 0 (some (.cells 2 [(e_TJTrail t_)]))) 1 (some (.cells 2 [(e_TJTrail r_4.1)]))) 2 (some (.cells 2 [[.ro false 3 (want02.map e_TJEntry),cI want11]]))),3⟩:=by
 unfold Zt at h
 refine Sv.seq<|ssr<|un1 rfl<|un1 (v:=(B (!decide (say=0)))) rfl<|dnil ?_
 refine Sv.cnd rfl h (fun h=>?_) fun h=>?_
 ·refine ssr<|un1 (v:=(.agg (e_TJTrail r_4.1))) rfl<|un1 (v:=(.agg [.ro true 3 [],cI 0])) rfl ?_
  obtain ⟨r_12,hr13,h⟩:=bnd h
  refine un<|ac_lend (h2:=_) (Z63 hr13) rfl (.cons (avAs_free rfl) (.cons (avAs_agg (.cons .nil (.sm rfl .nil))) .nil)) (hsub_refl _) rfl rfl (.inl rfl)<|un1 rfl ?_
  refine gjoin 3 (d:=146) (v:=(B (r_12&&(!r_4.2.1)))) (fun X hX=>?_) ?_
  ·refine split2 (fun hc8=>?_) (fun hc8=>?_)
   ·refine gt rfl<|a1 rfl<|gt rfl<|a1 (v:=(B (!r_4.2.1))) rfl<|un1 (v:=(B (!r_4.2.1))) rfl<|dnil ?_
    exact hX _ (.putEq (by rw [hc8]; rfl) (.skp (.skp (.putEq (by rw [hc8]) (.refl _)) rfl) rfl))
   ·refine gs rfl rfl<|gs rfl rfl<|un1 (v:=(B false)) rfl<|dnil ?_
    exact hX _ (.putEq (by rw [hc8]; rfl) (.skp (.skp (.putEq (by rw [hc8]) (.refl _)) rfl) rfl))
  refine un1 rfl ?_
  refine gjoin 4 (d:=151) (v:=(B ((r_12&&(!r_4.2.1))&&(decide (r_4.2.2=say))))) (fun X hX=>?_) ?_
  ·refine split2 (fun hc9=>?_) (fun hc9=>?_)
   ·refine gt rfl<|a1 rfl<|gt rfl<|a1 rfl<|gt rfl<|a1 (v:=(B (decide (r_4.2.2=say)))) rfl<|un1 (v:=(B (decide (r_4.2.2=say)))) rfl<|dnil ?_
    exact hX _ (.putEq (by rw [hc9]; rfl) (.skp (.skp (.skp (.putEq (by rw [hc9]) (.refl _)) rfl) rfl) rfl))
   ·refine gs rfl rfl<|gs rfl rfl<|gs rfl rfl<|un1 (v:=(B false)) rfl<|dnil ?_
    exact hX _ (.putEq (by rw [hc9]; rfl) (.skp (.skp (.skp (.putEq (by rw [hc9]) (.refl _)) rfl) rfl) rfl))
  refine un1 rfl<|dnil<|Sv.ret ?_
  exact rt0 h rfl rfl ⟨rfl,rfl,rfl⟩
 ·refine Sv.skip<|ssr<|un1 (v:=(.c (.ref 0 2 0 0))) rfl<|un1 (v:=(.c (.ro false 3 (t_.Entries.map e_TJEntry)))) rfl<|un1 (v:=(.c (.ref 0 2 0 1))) rfl<|un1 (v:=(I t_.At)) rfl<|un1 rfl<|un1 (v:=(I (wi (t_.At+n_)))) rfl<|un1 (v:=(.agg [.ro false 3 (t_.Entries.map e_TJEntry),cI (wi (t_.At+n_))])) rfl<|un<|a2n (h' := upd _ 2 (some (.cells 2 [[.ro false 3 (t_.Entries.map e_TJEntry),cI (wi (t_.At+n_))]]))) (n' := 3) rfl rfl hcs<|dnil<|Sv.seq<|Sv.drawn<|un1 (v:=(.agg (e_TJTrail r_4.1))) rfl<|un1 (v:=(.agg [.ro false 3 (t_.Entries.map e_TJEntry),cI (wi (t_.At+n_))])) rfl ?_
  obtain ⟨r_13,hr14,h⟩:=bnd h
  refine un<|ac_pure (Z63 hr14) rfl rfl rfl<|un1 rfl ?_
  refine spl h (fun h=>?_) fun h=>?_
  ·refine gt rfl<|a1 rfl<|gt rfl<|a1 (v:=(.c (.ref 0 2 0 0))) rfl<|gt rfl<|a1 (v:=(.c (.ro false 3 (t_.Entries.map e_TJEntry)))) rfl<|gt rfl<|a1 (v:=(.c (.ref 0 2 0 1))) rfl<|gt rfl<|a1 (v:=(I t_.At)) rfl<|gt rfl<|a1 rfl<|gt rfl<|a1 (v:=(I (wi (t_.At+n_)))) rfl ?_
   obtain ⟨x_2,hx3,h⟩:=bnd h
   refine gt rfl<|a1 (v:=(.c (.rop (e_TJEntry x_2)))) (s_iaddr (e:=e_TJEntry) (xs:=t_.Entries) rfl rfl hx3)<|gt rfl<|a1 (v:=(.c (.rop [cI x_2.Doc]))) rfl<|gt rfl<|a1 (v:=(I x_2.Doc)) rfl<|gt rfl<|a1 (v:=(.c (.ref 0 2 0 0))) rfl<|gt rfl<|a1 (v:=(.c (.ro false 3 (t_.Entries.map e_TJEntry)))) rfl<|gt rfl<|a1 (v:=(.c (.ref 0 2 0 1))) rfl<|gt rfl<|a1 (v:=(I t_.At)) rfl ?_
   obtain ⟨x_3,hx4,h⟩:=bnd h
   refine gt rfl<|a1 (v:=(.c (.rop (e_TJEntry x_3)))) (s_iaddr (e:=e_TJEntry) (xs:=t_.Entries) rfl rfl hx4)<|gt rfl<|a1 (v:=(.c (.rop [cI x_3.Doc]))) rfl<|gt rfl<|a1 (v:=(I x_3.Doc)) rfl<|gt rfl<|a1 (v:=(B (!decide (x_2.Doc=x_3.Doc)))) rfl<|gt rfl<|a1 (v:=(B ((r_4.2.1 == (!decide (x_2.Doc=x_3.Doc)))&&true))) rfl<|un1 (v:=(B ((r_4.2.1 == (!decide (x_2.Doc=x_3.Doc)))&&true))) rfl<|un1 rfl ?_
   refine gjoin 3 (d:=186) (v:=(B (((r_4.2.1 == (!decide (x_2.Doc=x_3.Doc)))&&true)&&(decide (r_4.2.2=0))))) (fun X hX=>?_) ?_
   ·refine split2 (fun hc11=>?_) (fun hc11=>?_)
    ·refine gt rfl<|a1 rfl<|gt rfl<|a1 (v:=(B (decide (r_4.2.2=0)))) rfl<|un1 (v:=(B (decide (r_4.2.2=0)))) rfl<|dnil ?_
     exact hX _ (.putEq (by rw [hc11]; rfl) (.skp (.skp (.putEq (by rw [hc11]) (.refl _)) rfl) rfl))
    ·refine gs rfl rfl<|gs rfl rfl<|un1 (v:=(B false)) rfl<|dnil ?_
     exact hX _ (.putEq (by rw [hc11]; rfl) (.skp (.skp (.putEq (by rw [hc11]) (.refl _)) rfl) rfl))
   refine un1 rfl<|dnil ?_
   exact Sv.weak (wcn [] rfl (.cf rfl rfl .nil) .nil) (Zbl h)
  ·repeat (first | refine gu rfl ?_ | refine gs rfl rfl ?_)
   refine un1 (v:=(B false)) rfl<|un1 rfl<|gs rfl rfl<|gs rfl rfl<|un1 (v:=(B false)) rfl<|un1 rfl<|dnil ?_
   exact Sv.weak (wcn [] rfl (.cf rfl rfl .nil) .nil) (Zbl h)
noncomputable def Z3t (r_:(TJTrail×Int)) (r_1:(TJTrail×Int)) (r_2:(TJTrail×Int)) (r_3:(TJTrail×Int)) (t_:TJTrail) (ref:Tx) (state:Tx) (n_:Int) (r_4:(TJTrail×Bool×Int)) (want0:(List TJEntry)):Option Bool :=
 (Z25 r_.1 (⟨want0,0⟩:TJTrail)).bind fun r_8 =>
 if (!r_8) then
  some false
 else
  lim fun kk=>Zh r_1 r_2 r_3 t_ ref state n_ r_4 (fun (want02:(List TJEntry)) (want11:Int) => 
    (Z2u t_).bind fun r_11 =>
    if ((decide (r_11=0))&&(!(Z1 n_ (wi (0 - t_.At)) (wi ((wi ((t_.Entries.length:Int) - 1)) - t_.At))))) then
     Zt r_4 t_ n_ want02 want11 5
    else
     Zt r_4 t_ n_ want02 want11 r_11) kk want0 0 [r_1.1,r_2.1,r_3.1] 0
theorem Zbn {mL:Int}{r_:(TJTrail×Int)}{r_1:(TJTrail×Int)}{r_2:(TJTrail×Int)}{r_3:(TJTrail×Int)}{t_:TJTrail}{ref:Tx}{state:Tx}{n_:Int}{r_4:(TJTrail×Bool×Int)}{want0:(List TJEntry)}{zwant0:Bool}(hzwant0:zwant0=true→want0=[]) {o:Bool}(h:Z3t r_ r_1 r_2 r_3 t_ ref state n_ r_4 want0=some o) :
  Sv Tryz.prog (GG mL) 0 a3_c0 (Ends a3.results 0 (Z3s o)) ⟨(ue [(22,(.c (.ref 6 2 0 0))),(19,(I r_4.2.2)),(18,(B r_4.2.1)),(17,(.c (.ref 5 2 0 0))),(16,(I r_3.2)),(15,(.c (.ref 4 2 0 0))),(14,(I r_2.2)),(13,(.c (.ref 3 2 0 0))),(12,(I r_1.2)),(11,(.c (.ref 2 2 0 0))),(9,(.c (.ref 1 2 0 0))),(4,(.c (.ref 0 2 0 0))),(3,(I n_)),(2,(S state)),(1,(S ref))]),(upd (upd (upd (upd (upd (upd (upd (upd e0 0 (some (.cells 2 [(e_TJTrail t_)]))) 1 (some (.cells 2 [(e_TJTrail r_.1)]))) 2 (some (.cells 2 [(e_TJTrail r_1.1)]))) 3 (some (.cells 2 [(e_TJTrail r_2.1)]))) 4 (some (.cells 2 [(e_TJTrail r_3.1)]))) 5 (some (.cells 2 [(e_TJTrail r_4.1)]))) 6 (some (.cells 2 [[lstC zwant0 7 3 want0.length,cI 0]]))) 7 (lstB zwant0 3 (want0.map e_TJEntry))),8⟩:=by
 unfold Z3t at h
 refine Sv.seq<|ssr<|un1 (v:=(.agg (e_TJTrail r_.1))) rfl<|un1 (v:=(.agg [lstC zwant0 7 3 want0.length,cI 0])) rfl ?_
 obtain ⟨r_8,hr9,h⟩:=bnd h
 refine un<|ac_lend (h2:=(upd _ 7 none)) (Z63 hr9) rfl (.cons (avAs_free rfl) (.cons (avAs_agg (.cons (lstC_ro (es:=List.map e_TJEntry want0) rfl (List.length_map e_TJEntry).symm (map_nil_of hzwant0) (gone rfl) (fr_map fun _=>rfl)) (.sm rfl .nil))) .nil)) (hsub_none (hsub_refl _)) rfl rfl (.inr rfl)<|un1 (v:=(B (!r_8))) rfl<|dnil ?_
 refine Sv.cnd rfl h (fun h=>?_) fun h=>?_
 ·refine ssr<|un1 rfl<|dnil<|Sv.ret ?_
  exact rt0 h rfl rfl ⟨rfl,rfl,rfl⟩
 ·refine Sv.skip<|Sv.seq<|ssr<|un1 (v:=(.agg (e_TJTrail r_1.1))) rfl<|un1 (v:=(.agg (e_TJTrail r_2.1))) rfl<|un1 (v:=(.agg (e_TJTrail r_3.1))) rfl<|un<|a2v (v:=(lstV false 8 2 [r_1.1,r_2.1,r_3.1].length)) (h' := upd _ 8 (lstB false 2 ([r_1.1,r_2.1,r_3.1].map e_TJTrail))) (n' := 9) rfl rfl hcs<|un1 (v:=(I ([r_1.1,r_2.1,r_3.1].length:Int))) (s_lenL rfl (len_nil_of hcs))<|un1 rfl<|dnil<|Sv.block ?_
  obtain ⟨kk,h⟩:=lim_some h
  refine Sv.weak (wcn [0,5,6,8] rfl (.cf rfl rfl (.cf rfl rfl (.cons rfl (.c (lsr rfl rfl)) (.cr rfl rfl rfl (.cf rfl rfl (.cf rfl rfl (.cr rfl rfl rfl (.cf rfl rfl (.cf rfl rfl (.cf rfl rfl (.cr rfl rfl rfl (.cf rfl rfl (.cf rfl rfl (.cf rfl rfl .nil)))))))))))))) (.row (by decide) rfl (fr_map fun _=>rfl) (.box (by decide) rfl (blkAs_cells (.cons (lstC_ro (es:=List.map e_TJEntry want0) rfl (List.length_map e_TJEntry).symm (map_nil_of hzwant0) (fun b x hx=>not_in (bs:=[0,5,6,8]) rfl b (((.cons (by decide) (.cons (by decide) (.cons (by decide) (.cons (by decide) .nil)))):HLt _ _) b x hx)) (fr_map fun _=>rfl)) (.sm rfl .nil))) (.box (by decide) rfl (blkAs_cells (.sm rfl (.sm rfl .nil))) (.box (by decide) rfl (blkAs_cells (.sm rfl (.sm rfl .nil))) .nil))))) (Zgh hcs h ?_ (fun s hs=>hs))
  ·intro want02 want11 h _ hw1
   refine Sv.weak hw1<|ssr<|un1 (v:=(.agg (e_TJTrail t_))) rfl ?_
   obtain ⟨r_11,hr12,h⟩:=bnd h
   refine un<|ac_pure (Z7f hr12) rfl rfl rfl<|un1 rfl<|dnil<|Sv.seq<|ssr<|un1 rfl<|un1 (v:=(B (decide (r_11=0)))) rfl<|un1 rfl ?_
   refine gjoin 14 (d:=137) (v:=(B ((decide (r_11=0))&&(!(Z1 n_ (wi (0 - t_.At)) (wi ((wi ((t_.Entries.length:Int) - 1)) - t_.At))))))) (fun X hX=>?_) ?_
   ·refine split2 (fun hc12=>?_) (fun hc12=>?_)
    ·refine gt rfl<|a1 rfl<|gt rfl<|a1 (v:=(.c (.ref 0 2 0 1))) rfl<|gt rfl<|a1 (v:=(I t_.At)) rfl<|gt rfl<|a1 (v:=(I (wi (0 - t_.At)))) rfl<|gt rfl<|a1 (v:=(.c (.ref 0 2 0 0))) rfl<|gt rfl<|a1 (v:=(.c (.ro false 3 (t_.Entries.map e_TJEntry)))) rfl<|gt rfl<|a1 (v:=(I (t_.Entries.length:Int))) (s_len (e:=e_TJEntry) (xs:=t_.Entries) rfl)<|gt rfl<|a1 (v:=(I (wi ((t_.Entries.length:Int) - 1)))) rfl<|gt rfl<|a1 (v:=(.c (.ref 0 2 0 1))) rfl<|gt rfl<|a1 (v:=(I t_.At)) rfl<|gt rfl<|a1 (v:=(I (wi ((wi ((t_.Entries.length:Int) - 1)) - t_.At)))) rfl<|gt rfl<|ac_pure (Zo (mL:=mL) n_ (wi (0 - t_.At)) (wi ((wi ((t_.Entries.length:Int) - 1)) - t_.At))) rfl rfl rfl<|gt rfl<|a1 (v:=(B (!(Z1 n_ (wi (0 - t_.At)) (wi ((wi ((t_.Entries.length:Int) - 1)) - t_.At)))))) rfl<|un1 (v:=(B (!(Z1 n_ (wi (0 - t_.At)) (wi ((wi ((t_.Entries.length:Int) - 1)) - t_.At)))))) rfl<|dnil ?_
     exact hX _ (.putEq (by rw [hc12]; rfl) (by repeat (first | exact .putEq (by rw [hc12]) (.refl _) | refine .skp ?_ rfl)))
    ·repeat (first | refine gu rfl ?_ | refine gs rfl rfl ?_)
     refine un1 (v:=(B false)) rfl<|dnil ?_
     exact hX _ (.putEq (by rw [hc12]; rfl) (by repeat (first | exact .putEq (by rw [hc12]) (.refl _) | refine .skp ?_ rfl)))
   refine dnil ?_
   refine Sv.cnd rfl h (fun h=>?_) fun h=>?_
   ·refine srg<|un1 rfl<|dnil ?_
    exact Sv.weak (wcn [0,1,2] rfl (.cr rfl rfl rfl (.cf rfl rfl (.cf rfl rfl (.cf rfl rfl (.cr rfl rfl rfl (.cr rfl rfl rfl (.cf rfl rfl .nil))))))) (.box (by decide) rfl (blkAs_cells (.sm rfl (.sm rfl .nil))) (.box (by decide) rfl (blkAs_cells (.sm rfl (.sm rfl .nil))) (.box (by decide) rfl (blkAs_cells (.sm rfl (.sm rfl .nil))) .nil)))) (Zbm h)
   ·refine Sv.skip ?_
    exact Sv.weak (wcn [0,1,2] rfl (.cr rfl rfl rfl (.cf rfl rfl (.cf rfl rfl (.cf rfl rfl (.cr rfl rfl rfl (.cr rfl rfl rfl (.cf rfl rfl .nil))))))) (.box (by decide) rfl (blkAs_cells (.sm rfl (.sm rfl .nil))) (.box (by decide) rfl (blkAs_cells (.sm rfl (.sm rfl .nil))) (.box (by decide) rfl (blkAs_cells (.sm rfl (.sm rfl .nil))) .nil)))) (Zbm h)
noncomputable def Z64 (t_:TJTrail) (ref:Tx) (state:Tx) (n_:Int):Option Bool :=
 (Z4c ref).bind fun r_ =>
 (Z4o t_ ref).bind fun r_1 =>
 (Z4p t_ ref state).bind fun r_2 =>
 (Z4q t_ ref state).bind fun r_3 =>
 (Z4r t_ n_).bind fun r_4 =>
 (Z23 ref ref).bind fun r_5 =>
 (Z2i t_).bind fun r_6 =>
 (Z2u t_).bind fun r_7 =>
 if ((!decide (r_6=r_7))||(!decide (r_.2=r_5.2))) then
  some false
 else
  if decide (r_5.2=0) then
   Z3t r_ r_1 r_2 r_3 t_ ref state n_ r_4 [(⟨r_5.1,[],0⟩:TJEntry)]
  else
   Z3t r_ r_1 r_2 r_3 t_ ref state n_ r_4 ([]:List TJEntry)
theorem Zgi {mL:Int}{t_:TJTrail}{ref:Tx}{state:Tx}{n_:Int}{r:Bool}(h:Z64 t_ ref state n_=some r):CPure Tryz.prog (GG mL) 3 [(.agg (e_TJTrail t_)),(S ref),(S state),(I n_)] (B r):=by
 refine acalls_of_sv hmix c3 (R:=Z3s r) ?_
 unfold Z64 at h
 refine ssr<|un<|a2v (v:=(.c (.ref 0 2 0 0))) (h' := upd _ 0 (some (.cells 2 [(e_TJTrail t_)]))) (n' := 1) rfl rfl hcs<|un1 rfl<|dnil<|ssr<|un1 rfl ?_
 obtain ⟨r_,hr1,h⟩:=bnd h
 refine un<|ac_pure (Zdc hr1) rfl rfl rfl<|un1 rfl<|un1 (v:=(.agg (e_TJTrail r_.1))) rfl<|un1 (v:=(I r_.2)) rfl<|un<|a2v (v:=(.c (.ref 1 2 0 0))) (h' := upd _ 1 (some (.cells 2 [[.ro true 3 [],cI 0]]))) (n' := 2) rfl rfl hcs<|un<|a2n (h' := upd _ 1 (some (.cells 2 [(e_TJTrail r_.1)]))) (n' := 2) rfl rfl hcs<|un1 rfl<|dnil<|ssr<|un1 (v:=(.agg (e_TJTrail t_))) rfl<|un1 rfl ?_
 obtain ⟨r_1,hr2,h⟩:=bnd h
 refine un<|ac_pure (Zeb hr2) rfl rfl rfl<|un1 rfl<|un1 (v:=(.agg (e_TJTrail r_1.1))) rfl<|un1 (v:=(I r_1.2)) rfl<|un<|a2v (v:=(.c (.ref 2 2 0 0))) (h' := upd _ 2 (some (.cells 2 [[.ro true 3 [],cI 0]]))) (n' := 3) rfl rfl hcs<|un<|a2n (h' := upd _ 2 (some (.cells 2 [(e_TJTrail r_1.1)]))) (n' := 3) rfl rfl hcs<|un1 rfl<|dnil<|ssr<|un1 (v:=(.agg (e_TJTrail t_))) rfl<|un1 rfl<|un1 rfl ?_
 obtain ⟨r_2,hr3,h⟩:=bnd h
 refine un<|ac_pure (Zee hr3) rfl rfl rfl<|un1 rfl<|un1 (v:=(.agg (e_TJTrail r_2.1))) rfl<|un1 (v:=(I r_2.2)) rfl<|un<|a2v (v:=(.c (.ref 3 2 0 0))) (h' := upd _ 3 (some (.cells 2 [[.ro true 3 [],cI 0]]))) (n' := 4) rfl rfl hcs<|un<|a2n (h' := upd _ 3 (some (.cells 2 [(e_TJTrail r_2.1)]))) (n' := 4) rfl rfl hcs<|un1 rfl<|dnil<|ssr<|un1 (v:=(.agg (e_TJTrail t_))) rfl<|un1 rfl<|un1 rfl ?_
 obtain ⟨r_3,hr4,h⟩:=bnd h
 refine un<|ac_pure (Zeg hr4) rfl rfl rfl<|un1 rfl<|un1 (v:=(.agg (e_TJTrail r_3.1))) rfl<|un1 (v:=(I r_3.2)) rfl<|un<|a2v (v:=(.c (.ref 4 2 0 0))) (h' := upd _ 4 (some (.cells 2 [[.ro true 3 [],cI 0]]))) (n' := 5) rfl rfl hcs<|un<|a2n (h' := upd _ 4 (some (.cells 2 [(e_TJTrail r_3.1)]))) (n' := 5) rfl rfl hcs<|un1 rfl<|dnil<|ssr<|un1 (v:=(.agg (e_TJTrail t_))) rfl<|un1 rfl ?_
 obtain ⟨r_4,hr5,h⟩:=bnd h
 refine un<|ac_pure (Zei hr5) rfl rfl rfl<|un1 rfl<|un1 (v:=(.agg (e_TJTrail r_4.1))) rfl<|un1 (v:=(B r_4.2.1)) rfl<|un1 (v:=(I r_4.2.2)) rfl<|un<|a2v (v:=(.c (.ref 5 2 0 0))) (h' := upd _ 5 (some (.cells 2 [[.ro true 3 [],cI 0]]))) (n' := 6) rfl rfl hcs<|un<|a2n (h' := upd _ 5 (some (.cells 2 [(e_TJTrail r_4.1)]))) (n' := 6) rfl rfl hcs<|un1 rfl<|un1 rfl<|dnil<|ssr<|un1 rfl<|un1 rfl ?_
 obtain ⟨r_5,hr6,h⟩:=bnd h
 refine un<|ac_pure (Z7c hr6) rfl rfl rfl<|un1 rfl<|un1 (v:=(S r_5.1)) rfl<|un1 (v:=(I r_5.2)) rfl<|un1 rfl<|un1 rfl<|dnil<|Sv.seq<|Sv.seq<|Sv.drawn<|un1 (v:=(.agg (e_TJTrail t_))) rfl<|un1 (v:=(.agg (e_TJTrail t_))) rfl ?_
 obtain ⟨r_6,hr7,h⟩:=bnd h
 refine un<|ac_pure (Z6w hr7) rfl rfl rfl ?_
 obtain ⟨r_7,hr8,h⟩:=bnd h
 refine un<|ac_pure (Z7f hr8) rfl rfl rfl<|un1 (v:=(B (!decide (r_6=r_7)))) rfl<|un1 rfl ?_
 refine gjoin 4 (d:=72) (v:=(B ((!decide (r_6=r_7))||(!decide (r_.2=r_5.2))))) (fun X hX=>?_) ?_
 ·refine split2 (fun hc1=>?_) (fun hc1=>?_)
  ·refine gs rfl rfl<|gs rfl rfl<|gs rfl rfl<|un1 (v:=(B true)) rfl<|dnil ?_
   exact hX _ (.putEq (by rw [hc1]; rfl) (.skp (.skp (.skp (.putEq (by rw [hc1]) (.refl _)) rfl) rfl) rfl))
  ·refine gt rfl<|a1 rfl<|gt rfl<|a1 rfl<|gt rfl<|a1 (v:=(B (!decide (r_.2=r_5.2)))) rfl<|un1 (v:=(B (!decide (r_.2=r_5.2)))) rfl<|dnil ?_
   exact hX _ (.putEq (by rw [hc1]; rfl) (.skp (.skp (.skp (.putEq (by rw [hc1]) (.refl _)) rfl) rfl) rfl))
 refine dnil ?_
 refine Sv.cnd rfl h (fun h=>?_) fun h=>?_
 ·refine ssr<|un1 rfl<|dnil<|Sv.ret ?_
  exact rt0 h rfl rfl ⟨rfl,rfl,rfl⟩
 ·refine Sv.skip<|ssr<|un1 (v:=(.agg [.ro true 3 [],cI 0])) rfl<|un<|a2v (v:=(.c (.ref 6 2 0 0))) (h' := upd _ 6 (some (.cells 2 [[.ro true 3 [],cI 0]]))) (n' := 7) rfl rfl hcs<|un<|a2n (h' := upd _ 6 (some (.cells 2 [[.ro true 3 [],cI 0]]))) (n' := 7) rfl rfl hcs<|dnil<|Sv.seq<|ssr<|un1 rfl<|un1 (v:=(B (decide (r_5.2=0)))) rfl<|dnil ?_
  refine Sv.cnd rfl h (fun h=>?_) fun h=>?_
  ·refine srg<|un1 rfl<|un1 (v:=(.agg [.str r_5.1,.str [],cI 0])) rfl<|un<|a2v (v:=(lstV false 7 3 [(⟨r_5.1,[],0⟩:TJEntry)].length)) (h' := upd _ 7 (lstB false 3 ([(⟨r_5.1,[],0⟩:TJEntry)].map e_TJEntry))) (n' := 8) rfl rfl hcs<|un1 (v:=(.c (.ref 6 2 0 0))) rfl<|un<|a2n (h' := upd _ 6 (some (.cells 2 [[lstC false 7 3 [(⟨r_5.1,[],0⟩:TJEntry)].length,cI 0]]))) (n' := 8) rfl rfl hcs<|dnil ?_
   exact Sv.weak (wcn [0,1,2,3,4,5,6,7] rfl (.cr rfl rfl rfl (.cf rfl rfl (.cf rfl rfl (.cr rfl rfl rfl (.cf rfl rfl (.cr rfl rfl rfl (.cf rfl rfl (.cr rfl rfl rfl (.cf rfl rfl (.cr rfl rfl rfl (.cr rfl rfl rfl (.cr rfl rfl rfl (.cf rfl rfl (.cf rfl rfl (.cf rfl rfl .nil))))))))))))))) (.row (by decide) rfl (fr_map fun _=>rfl) (.box (by decide) rfl (blkAs_cells (.cons (lstC_ren rfl (by decide)) (.sm rfl .nil))) (.box (by decide) rfl (blkAs_cells (.sm rfl (.sm rfl .nil))) (.box (by decide) rfl (blkAs_cells (.sm rfl (.sm rfl .nil))) (.box (by decide) rfl (blkAs_cells (.sm rfl (.sm rfl .nil))) (.box (by decide) rfl (blkAs_cells (.sm rfl (.sm rfl .nil))) (.box (by decide) rfl (blkAs_cells (.sm rfl (.sm rfl .nil))) (.box (by decide) rfl (blkAs_cells (.sm rfl (.sm rfl .nil))) .nil))))))))) (Zbn hcs h)
  ·refine Sv.skip ?_
   exact Sv.weak (wcn [0,1,2,3,4,5,6,1000] rfl (.cr rfl rfl rfl (.cf rfl rfl (.cf rfl rfl (.cr rfl rfl rfl (.cf rfl rfl (.cr rfl rfl rfl (.cf rfl rfl (.cr rfl rfl rfl (.cf rfl rfl (.cr rfl rfl rfl (.cr rfl rfl rfl (.cr rfl rfl rfl (.cf rfl rfl (.cf rfl rfl (.cf rfl rfl .nil))))))))))))))) (.non (by decide) (.box (by decide) rfl (blkAs_cells (.sm rfl (.sm rfl .nil))) (.box (by decide) rfl (blkAs_cells (.sm rfl (.sm rfl .nil))) (.box (by decide) rfl (blkAs_cells (.sm rfl (.sm rfl .nil))) (.box (by decide) rfl (blkAs_cells (.sm rfl (.sm rfl .nil))) (.box (by decide) rfl (blkAs_cells (.sm rfl (.sm rfl .nil))) (.box (by decide) rfl (blkAs_cells (.sm rfl (.sm rfl .nil))) (.box (by decide) rfl (blkAs_cells (.sm rfl (.sm rfl .nil))) .nil))))))))) (Zbn (fun _=>rfl) h)
end Go.Proofs.YtngonchkhmjenaaGreatDoorBv
