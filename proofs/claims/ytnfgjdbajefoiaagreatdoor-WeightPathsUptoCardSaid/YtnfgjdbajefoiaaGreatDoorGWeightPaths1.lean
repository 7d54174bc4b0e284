/- Printed by a program of mine (bgen.py): plain functions, and the walks that show that the code comes to what they answer. -/
import Derived.Test.YtnfgjdbajefoiaaGreatDoorGWeightPaths0
namespace Go.Proofs.YtnfgjdbajefoiaaGreatDoorBv
open Go
set_option linter.unusedVariables false
set_option linter.unusedSimpArgs false
set_option maxRecDepth 100000
def a27_c0:ACode:=(.drawn (.alt [((oP 63 (.faddr 0 (.tmp 3))),(0,0)),((mV 65 0),(0,2))] (.fin [((oP 64 (.load false 1 (.tmp 63))),(2,1)),((oP 66 (.call 51 [(.tmp 65)])),(2,3)),((oP 67 (.bslice 1 [(.ro true 7 [])] 1 [(0,(.tmp 66))])),(2,4)),((oP 68 (.app 1 24 (.tmp 64) (.tmp 67))),(2,5)),((oP 69 (.faddr 0 (.tmp 3))),(0,6)),((oN (.store 1 (.tmp 69) (.tmp 68))),(2,7))]) (.alt [((oP 66 (.call 51 [(.tmp 65)])),(2,3))] (.fin [((oP 64 (.load false 1 (.tmp 63))),(2,1)),((oP 67 (.bslice 1 [(.ro true 7 [])] 1 [(0,(.tmp 66))])),(2,4)),((oP 68 (.app 1 24 (.tmp 64) (.tmp 67))),(2,5)),((oP 69 (.faddr 0 (.tmp 3))),(0,6)),((oN (.store 1 (.tmp 69) (.tmp 68))),(2,7))]) (.fin [((oP 67 (.bslice 1 [(.ro true 7 [])] 1 [(0,(.tmp 66))])),(2,4)),((oP 64 (.load false 1 (.tmp 63))),(2,1)),((oP 68 (.app 1 24 (.tmp 64) (.tmp 67))),(2,5)),((oP 69 (.faddr 0 (.tmp 3))),(0,6)),((oN (.store 1 (.tmp 69) (.tmp 68))),(2,7))]))))
def a27_c1:ACode:=(.block 1 (sr [(mV 10 0),(oP 11 (.call 26 [(.tmp 10)])),(mV 4 11)]
 (sr [(mV 12 0),(oP 13 (.call 50 [(.tmp 12)])),(oP 5 (.box (.const (.agg [(.val (.int .i64 0)),(.str []),(.str []),(.val (.int .i64 0))])))),(oN (.store 4 (.tmp 5) (.tmp 13)))]
 (.seq (.block 2 (sr [(oP 16 (.faddr 1 (.tmp 5))),(oP 17 (.load false 1 (.tmp 16))),(oP 18 (.bin .eql (.tmp 17) (.const (.c (.str [62]))))),(mV 19 18),⟨(some 20),(.faddr 1 (.tmp 5)),(some (19,false))⟩,⟨(some 21),(.load false 1 (.tmp 20)),(some (19,false))⟩,⟨(some 22),(.bin .eql (.tmp 21) (.const (.c (.str [43])))),(some (19,false))⟩,(oP 23 (.pick (.tmp 19) kT (.tmp 22))),(mV 24 23),⟨(some 25),(.faddr 1 (.tmp 5)),(some (24,false))⟩,⟨(some 26),(.load false 1 (.tmp 25)),(some (24,false))⟩,⟨(some 27),(.bin .eql (.tmp 26) (.const (.c (.str [126])))),(some (24,false))⟩,(oP 28 (.pick (.tmp 24) kT (.tmp 27))),(mV 15 28)]
 (.cond (.tmp 15) (sr [(mV 29 0),(oP 30 (.call 52 [(.tmp 29)]))]
 (sr [(mV 31 0),(oP 32 (.call 26 [(.tmp 31)]))]
 (.drawn (.fin [((oP 33 (.faddr 1 (.tmp 3))),(0,0)),((oP 34 (.load false 1 (.tmp 33))),(0,1)),((oP 35 (.faddr 1 (.tmp 5))),(0,2)),((oP 36 (.load false 1 (.tmp 35))),(0,3)),((oP 37 (.idxS (.tmp 36) (kI 0))),(0,4)),((oP 38 (.bslice 1 [(.val (.int .u8 0))] 1 [(0,(.tmp 37))])),(1,5)),((oP 39 (.app 1 1 (.tmp 34) (.tmp 38))),(2,6)),((oP 40 (.faddr 1 (.tmp 3))),(0,7)),((oN (.store 1 (.tmp 40) (.tmp 39))),(2,8))])))) (sr [(mV 42 4),(mV 43 42),⟨(some 44),(.faddr 0 (.tmp 5)),(some (43,true))⟩,⟨(some 45),(.load false 1 (.tmp 44)),(some (43,true))⟩,⟨(some 46),(.bin .neq (.tmp 45) (kI 0)),(some (43,true))⟩,(oP 47 (.pick (.tmp 43) (.tmp 46) kF)),(mV 48 47),⟨(some 49),(.faddr 1 (.tmp 5)),(some (48,true))⟩,⟨(some 50),(.load false 1 (.tmp 49)),(some (48,true))⟩,⟨(some 51),(.bin .neq (.tmp 50) (.const (.c (.str [44])))),(some (48,true))⟩,(oP 52 (.pick (.tmp 48) (.tmp 51) kF)),(mV 53 52),⟨(some 54),(.faddr 1 (.tmp 5)),(some (53,true))⟩,⟨(some 55),(.load false 1 (.tmp 54)),(some (53,true))⟩,⟨(some 56),(.bin .neq (.tmp 55) (.const (.c (.str [41])))),(some (53,true))⟩,(oP 57 (.pick (.tmp 53) (.tmp 56) kF)),(mV 41 57)]
 (.cond (.tmp 41) (.region [(oP 58 (.faddr 1 (.tmp 3))),(oP 59 (.load false 1 (.tmp 58))),(oP 60 (.bslice 1 [(.val (.int .u8 0))] 1 [(0,(.const (.c (.val (.int .u8 32)))))])),(oP 61 (.app 1 1 (.tmp 59) (.tmp 60))),(oP 62 (.faddr 1 (.tmp 3))),(oN (.store 1 (.tmp 62) (.tmp 61)))]) (sr [(oP 14 (.load true 2 (.tmp 3))),(oN (.store 2 (.tmp 2) (.tmp 14)))]
 .ret))))))
 a27_c0))))
def a27:AFunc:=⟨1,[(.cell true 2 2)],(sr [(oP 2 (.box (.const (.agg [(.ro true 1 []),(.ro true 1 [])]))))]
 (sr [(mV 6 0),(oP 7 (.call 51 [(.tmp 6)])),(oP 8 (.bslice 1 [(.ro true 7 [])] 1 [(0,(.tmp 7))])),(oP 9 (.build [(.ro true 1 []),(.ro true 1 [])] [(0,(1,(.tmp 8)))])),(oP 3 (.box (.const (.agg [(.ro true 1 []),(.ro true 1 [])])))),(oN (.store 2 (.tmp 3) (.tmp 9)))]
 (.block 0 (.loop a27_c1))))⟩
theorem c27:compFunc Tryz.prog 27=some a27:=by kernel_rfl
def Z5y (r:(TSPath×Treader)):AV→Heap→Nat→Prop:=fun v h' n' => ∃ z0:Bool,(z0=true→r.1.Steps=[])∧∃ z1:Bool,(z1=true→r.1.Joins=[])∧v=(.agg [lstC z0 1 1 r.1.Steps.length,lstC z1 2 1 r.1.Joins.length])∧(h' = (upd (upd (upd e0 0 (some (.cells 1 [[.ro false 4 (r.2.f_l.map e_TSToken)]]))) 1 (lstB z0 1 (r.1.Steps.map (eSl 7 e_TSTest)))) 2 (lstB z1 1 (r.1.Joins.map (eK .u8)))))∧n' = 3
abbrev Z9x (F_:(List TSToken)→(List (List TSTest))→(List Int)→Option (TSPath×Treader)) (o:(TSPath×Treader)) (R_:St→Prop):Prop:=∀(r_2:(List TSToken)) (p0:(List (List TSTest))) (p1:(List Int)) (zp0:Bool) (_:zp0=true→p0=[]) (zp1:Bool) (_:zp1=true→p1=[]),F_ r_2 p0 p1=some o→∀ s,Weak 1 s ⟨(ue [(3,(.c (.ref 2 2 0 0))),(2,(.c (.ref 1 2 0 0))),(0,(.c (.ref 0 1 0 0)))]),(upd (upd (upd (upd (upd e0 0 (some (.cells 1 [[.ro false 4 (r_2.map e_TSToken)]]))) 1 (some (.cells 2 [[.ro true 1 [],.ro true 1 []]]))) 2 (some (.cells 2 [[lstC zp0 3 1 p0.length,lstC zp1 4 1 p1.length]]))) 3 (lstB zp0 1 (p0.map (eSl 7 e_TSTest)))) 4 (lstB zp1 1 (p1.map (eK .u8)))),5⟩→R_ s
abbrev Ze0 (mL:Int) (Q:AExit→St→Prop):AExit→St→Prop:=ABlock 1 Q
noncomputable def Z5z (rec_clerestory_selector_reader_list:Treader→Tx→Option ((List Raw)×Treader)) (self:(List TSToken)→(List (List TSTest))→(List Int)→Option (TSPath×Treader)) (r_5:(List TSToken)) (p01:(List (List TSTest))) (p11:(List Int)):Option (TSPath×Treader) :=
 (Z5x rec_clerestory_selector_reader_list (⟨r_5⟩:Treader)).bind fun r_6 =>
 (app? 24 p01 [r_6.1]).bind fun r_7 =>
 self r_6.2.f_l r_7 p11
theorem Z9y {mL:Int}{Q:AExit→St→Prop}{rec_clerestory_selector_reader_list:Treader→Tx→Option ((List Raw)×Treader)}{self:(List TSToken)→(List (List TSTest))→(List Int)→Option (TSPath×Treader)}{r_5:(List TSToken)}{p01:(List (List TSTest))}{p11:(List Int)}{zp01:Bool}(hzp01:zp01=true→p01=[]) {zp11:Bool}(hzp11:zp11=true→p11=[]) {o:(TSPath×Treader)}(h:Z5z rec_clerestory_selector_reader_list self r_5 p01 p11=some o)
  (hself:Z9x self o (Q .normal))
  (hr:∀ s,Ends a27.results 1 (Z5y o) .ret s→Q .ret s)
  (hrec_clerestory_selector_reader_list:Z1h mL rec_clerestory_selector_reader_list) :
  Sv Tryz.prog (GG mL) 1 a27_c0 (Ze0 mL Q) ⟨(ue [(3,(.c (.ref 2 2 0 0))),(2,(.c (.ref 1 2 0 0))),(0,(.c (.ref 0 1 0 0)))]),(upd (upd (upd (upd (upd e0 0 (some (.cells 1 [[.ro false 4 (r_5.map e_TSToken)]]))) 1 (some (.cells 2 [[.ro true 1 [],.ro true 1 []]]))) 2 (some (.cells 2 [[lstC zp01 3 1 p01.length,lstC zp11 4 1 p11.length]]))) 3 (lstB zp01 1 (p01.map (eSl 7 e_TSTest)))) 4 (lstB zp11 1 (p11.map (eK .u8)))),5⟩:=by
 unfold Z5z at h
 refine Sv.drawn2<|un1 (v:=(.c (.ref 2 2 0 0))) rfl<|un1 rfl<|dnil ?_
 refine ⟨?_,?_⟩
 ·refine un1 (v:=(lstV zp01 3 1 p01.length)) rfl ?_
  obtain ⟨r_6,hr4,h⟩:=bnd h
  refine un<|ac_gen (bs:=[0]) («as»:=[(.c (.ref 0 1 0 0))]) (h2:=_) (h1:=(upd e0 0 (some (.cells 1 [[.ro false 4 (r_5.map e_TSToken)]])))) (Z7g hrec_clerestory_selector_reader_list hr4) rfl (.cons (.c (.ref rfl (by decide))) .nil) (hsub_refl _) (.cons rfl (.nil _)) hcs (by decide) (by decide) (.cons (.c (.ref rfl (by decide))) .nil) (.box (by decide) rfl (blkAs_cells (.sm rfl .nil)) .nil) ?_
  rintro _ _ _ hn ⟨z_1,hz_1,rfl,rfl,rfl⟩
  refine ⟨.inl rfl,(upd (upd (rem [0] _) 0 (some (.cells 1 [[.ro false 4 (r_6.2.f_l.map e_TSToken)]]))) 5 (lstB z_1 7 (r_6.1.map e_TSTest))),fun hbd=>(m3_cons (m3_row rfl (fr_map fun _=>rfl)) (m3_cons (m3_box rfl rfl) (m3_rem (in_cons (by decide) (in_nil _)) (.cons (by decide) (.cons (by decide) .nil)) hbd))),(lstV z_1 5 7 r_6.1.length),6,(by cases z_1 <;> rfl),rfl,?_⟩
  refine dweak (show Weak 1 _ ⟨(ue [(66,(.c (.ro false 7 (r_6.1.map e_TSTest)))),(65,(.c (.ref 0 1 0 0))),(64,(lstV zp01 3 1 p01.length)),(63,(.c (.ref 2 2 0 0))),(3,(.c (.ref 2 2 0 0))),(2,(.c (.ref 1 2 0 0))),(0,(.c (.ref 0 1 0 0)))]),(upd (upd (upd (upd (upd e0 0 (some (.cells 1 [[.ro false 4 (r_6.2.f_l.map e_TSToken)]]))) 1 (some (.cells 2 [[.ro true 1 [],.ro true 1 []]]))) 2 (some (.cells 2 [[lstC zp01 3 1 p01.length,lstC zp11 4 1 p11.length]]))) 3 (lstB zp01 1 (p01.map (eSl 7 e_TSTest)))) 4 (lstB zp11 1 (p11.map (eK .u8)))),6⟩ from (weak_canon [0,1,2,3,4,1005] rfl (by decide) (by decide) (by decide) (.cons rfl (.c (lstC_ro (es:=List.map e_TSTest r_6.1) rfl (List.length_map e_TSTest).symm (map_nil_of hz_1) (fun b x hx=>not_in (bs:=[0,1,2,3,4,1005]) rfl b (((.cons (by decide) (.cons (by decide) (.cons (by decide) (.cons (by decide) (.cons (by decide) .nil))))):HLt _ _) b x hx)) (fr_map fun _=>rfl))) (.cr rfl rfl rfl (.cons rfl (.c (lsr rfl rfl)) (.cr rfl rfl rfl (.cr rfl rfl rfl (.cr rfl rfl rfl (.cr rfl rfl rfl .nil))))))) (.row (by decide) rfl (fr_map fun _=>rfl) (.row (by decide) rfl (fr_map fun _=>rfl) (.box (by decide) rfl (blkAs_cells (.cons (lstC_ren rfl (by decide)) (.cons (lstC_ren rfl (by decide)) .nil))) (.box (by decide) rfl (blkAs_cells (.sm rfl (.sm rfl .nil))) (.box (by decide) rfl (blkAs_cells (.sm rfl .nil)) .nil)))))))<|un<|a2v (v:=(lstV false 6 1 [r_6.1].length)) (h' := upd _ 6 (lstB false 1 ([r_6.1].map (eSl 7 e_TSTest)))) (n' := 7) rfl rfl hcs ?_
  obtain ⟨r_7,hr5,h⟩:=bnd h
  have hz1:(zp01&&[r_6.1].isEmpty)=true→r_7=[]:=app_nil (z:=zp01) (ys:=[r_6.1]) hzp01 hr5
  refine un<|a2v rfl (s_app (xs:=p01) (ys:=[r_6.1]) (e:=(eSl 7 e_TSTest)) (z:=zp01) (b:=3) rfl rfl hzp01 rfl rfl (slc_lst rfl (List.length_map _).symm (map_nil_of hcs)) hr5) hcs<|un1 (v:=(.c (.ref 2 2 0 0))) rfl<|un<|a2n (h' := upd _ 2 (some (.cells 2 [[lstC (zp01&&[r_6.1].isEmpty) 7 1 r_7.length,lstC zp11 4 1 p11.length]]))) (n' := 8) rfl rfl hcs<|dnil ?_
  exact hself r_6.2.f_l r_7 p11 (zp01&&[r_6.1].isEmpty) hz1 zp11 hzp11 h _ (weak_canon [0,1,2,7,4] rfl (by decide) (by decide) (by decide) (.cr rfl rfl rfl (.cr rfl rfl rfl (.cr rfl rfl rfl .nil))) (.row (by decide) rfl (fr_map fun _=>rfl) (.row (by decide) rfl (fr_map fun _=>rfl) (.box (by decide) rfl (blkAs_cells (.cons (lstC_ren rfl (by decide)) (.cons (lstC_ren rfl (by decide)) .nil))) (.box (by decide) rfl (blkAs_cells (.sm rfl (.sm rfl .nil))) (.box (by decide) rfl (blkAs_cells (.sm rfl .nil)) .nil))))))
 ·obtain ⟨r_6,hr4,h⟩:=bnd h
  refine un<|ac_gen (bs:=[0]) («as»:=[(.c (.ref 0 1 0 0))]) (h2:=_) (h1:=(upd e0 0 (some (.cells 1 [[.ro false 4 (r_5.map e_TSToken)]])))) (Z7g hrec_clerestory_selector_reader_list hr4) rfl (.cons (.c (.ref rfl (by decide))) .nil) (hsub_refl _) (.cons rfl (.nil _)) hcs (by decide) (by decide) (.cons (.c (.ref rfl (by decide))) .nil) (.box (by decide) rfl (blkAs_cells (.sm rfl .nil)) .nil) ?_
  rintro _ _ _ hn ⟨z_1,hz_1,rfl,rfl,rfl⟩
  refine ⟨.inl rfl,(upd (upd (rem [0] _) 0 (some (.cells 1 [[.ro false 4 (r_6.2.f_l.map e_TSToken)]]))) 5 (lstB z_1 7 (r_6.1.map e_TSTest))),fun hbd=>(m3_cons (m3_row rfl (fr_map fun _=>rfl)) (m3_cons (m3_box rfl rfl) (m3_rem (in_cons (by decide) (in_nil _)) (.cons (by decide) (.cons (by decide) .nil)) hbd))),(lstV z_1 5 7 r_6.1.length),6,(by cases z_1 <;> rfl),rfl,?_⟩
  refine dnil ?_
  refine ⟨?_,?_⟩
  ·refine un1 (v:=(lstV zp01 3 1 p01.length)) rfl<|dweak (show Weak 1 _ ⟨(ue [(66,(.c (.ro false 7 (r_6.1.map e_TSTest)))),(65,(.c (.ref 0 1 0 0))),(64,(lstV zp01 3 1 p01.length)),(63,(.c (.ref 2 2 0 0))),(3,(.c (.ref 2 2 0 0))),(2,(.c (.ref 1 2 0 0))),(0,(.c (.ref 0 1 0 0)))]),(upd (upd (upd (upd (upd e0 0 (some (.cells 1 [[.ro false 4 (r_6.2.f_l.map e_TSToken)]]))) 1 (some (.cells 2 [[.ro true 1 [],.ro true 1 []]]))) 2 (some (.cells 2 [[lstC zp01 3 1 p01.length,lstC zp11 4 1 p11.length]]))) 3 (lstB zp01 1 (p01.map (eSl 7 e_TSTest)))) 4 (lstB zp11 1 (p11.map (eK .u8)))),6⟩ from (weak_canon [0,1,2,3,4,1005] rfl (by decide) (by decide) (by decide) (.cons rfl (.c (lstC_ro (es:=List.map e_TSTest r_6.1) rfl (List.length_map e_TSTest).symm (map_nil_of hz_1) (fun b x hx=>not_in (bs:=[0,1,2,3,4,1005]) rfl b (((.cons (by decide) (.cons (by decide) (.cons (by decide) (.cons (by decide) (.cons (by decide) .nil))))):HLt _ _) b x hx)) (fr_map fun _=>rfl))) (.cr rfl rfl rfl (.cons rfl (.c (lsr rfl rfl)) (.cr rfl rfl rfl (.cr rfl rfl rfl (.cr rfl rfl rfl (.cr rfl rfl rfl .nil))))))) (.row (by decide) rfl (fr_map fun _=>rfl) (.row (by decide) rfl (fr_map fun _=>rfl) (.box (by decide) rfl (blkAs_cells (.cons (lstC_ren rfl (by decide)) (.cons (lstC_ren rfl (by decide)) .nil))) (.box (by decide) rfl (blkAs_cells (.sm rfl (.sm rfl .nil))) (.box (by decide) rfl (blkAs_cells (.sm rfl .nil)) .nil)))))))<|un<|a2v (v:=(lstV false 6 1 [r_6.1].length)) (h' := upd _ 6 (lstB false 1 ([r_6.1].map (eSl 7 e_TSTest)))) (n' := 7) rfl rfl hcs ?_
   obtain ⟨r_7,hr5,h⟩:=bnd h
   have hz1:(zp01&&[r_6.1].isEmpty)=true→r_7=[]:=app_nil (z:=zp01) (ys:=[r_6.1]) hzp01 hr5
   refine un<|a2v rfl (s_app (xs:=p01) (ys:=[r_6.1]) (e:=(eSl 7 e_TSTest)) (z:=zp01) (b:=3) rfl rfl hzp01 rfl rfl (slc_lst rfl (List.length_map _).symm (map_nil_of hcs)) hr5) hcs<|un1 (v:=(.c (.ref 2 2 0 0))) rfl<|un<|a2n (h' := upd _ 2 (some (.cells 2 [[lstC (zp01&&[r_6.1].isEmpty) 7 1 r_7.length,lstC zp11 4 1 p11.length]]))) (n' := 8) rfl rfl hcs<|dnil ?_
   exact hself r_6.2.f_l r_7 p11 (zp01&&[r_6.1].isEmpty) hz1 zp11 hzp11 h _ (weak_canon [0,1,2,7,4] rfl (by decide) (by decide) (by decide) (.cr rfl rfl rfl (.cr rfl rfl rfl (.cr rfl rfl rfl .nil))) (.row (by decide) rfl (fr_map fun _=>rfl) (.row (by decide) rfl (fr_map fun _=>rfl) (.box (by decide) rfl (blkAs_cells (.cons (lstC_ren rfl (by decide)) (.cons (lstC_ren rfl (by decide)) .nil))) (.box (by decide) rfl (blkAs_cells (.sm rfl (.sm rfl .nil))) (.box (by decide) rfl (blkAs_cells (.sm rfl .nil)) .nil))))))
  ·refine dweak (show Weak 1 _ ⟨(ue [(66,(.c (.ro false 7 (r_6.1.map e_TSTest)))),(65,(.c (.ref 0 1 0 0))),(63,(.c (.ref 2 2 0 0))),(3,(.c (.ref 2 2 0 0))),(2,(.c (.ref 1 2 0 0))),(0,(.c (.ref 0 1 0 0)))]),(upd (upd (upd (upd (upd e0 0 (some (.cells 1 [[.ro false 4 (r_6.2.f_l.map e_TSToken)]]))) 1 (some (.cells 2 [[.ro true 1 [],.ro true 1 []]]))) 2 (some (.cells 2 [[lstC zp01 3 1 p01.length,lstC zp11 4 1 p11.length]]))) 3 (lstB zp01 1 (p01.map (eSl 7 e_TSTest)))) 4 (lstB zp11 1 (p11.map (eK .u8)))),6⟩ from (weak_canon [0,1,2,3,4,1005] rfl (by decide) (by decide) (by decide) (.cons rfl (.c (lstC_ro (es:=List.map e_TSTest r_6.1) rfl (List.length_map e_TSTest).symm (map_nil_of hz_1) (fun b x hx=>not_in (bs:=[0,1,2,3,4,1005]) rfl b (((.cons (by decide) (.cons (by decide) (.cons (by decide) (.cons (by decide) (.cons (by decide) .nil))))):HLt _ _) b x hx)) (fr_map fun _=>rfl))) (.cr rfl rfl rfl (.cr rfl rfl rfl (.cr rfl rfl rfl (.cr rfl rfl rfl (.cr rfl rfl rfl .nil)))))) (.row (by decide) rfl (fr_map fun _=>rfl) (.row (by decide) rfl (fr_map fun _=>rfl) (.box (by decide) rfl (blkAs_cells (.cons (lstC_ren rfl (by decide)) (.cons (lstC_ren rfl (by decide)) .nil))) (.box (by decide) rfl (blkAs_cells (.sm rfl (.sm rfl .nil))) (.box (by decide) rfl (blkAs_cells (.sm rfl .nil)) .nil)))))))<|un<|a2v (v:=(lstV false 6 1 [r_6.1].length)) (h' := upd _ 6 (lstB false 1 ([r_6.1].map (eSl 7 e_TSTest)))) (n' := 7) rfl rfl hcs<|un1 (v:=(lstV zp01 3 1 p01.length)) rfl ?_
   obtain ⟨r_7,hr5,h⟩:=bnd h
   have hz1:(zp01&&[r_6.1].isEmpty)=true→r_7=[]:=app_nil (z:=zp01) (ys:=[r_6.1]) hzp01 hr5
   refine un<|a2v rfl (s_app (xs:=p01) (ys:=[r_6.1]) (e:=(eSl 7 e_TSTest)) (z:=zp01) (b:=3) rfl rfl hzp01 rfl rfl (slc_lst rfl (List.length_map _).symm (map_nil_of hcs)) hr5) hcs<|un1 (v:=(.c (.ref 2 2 0 0))) rfl<|un<|a2n (h' := upd _ 2 (some (.cells 2 [[lstC (zp01&&[r_6.1].isEmpty) 7 1 r_7.length,lstC zp11 4 1 p11.length]]))) (n' := 8) rfl rfl hcs<|dnil ?_
   exact hself r_6.2.f_l r_7 p11 (zp01&&[r_6.1].isEmpty) hz1 zp11 hzp11 h _ (weak_canon [0,1,2,7,4] rfl (by decide) (by decide) (by decide) (.cr rfl rfl rfl (.cr rfl rfl rfl (.cr rfl rfl rfl .nil))) (.row (by decide) rfl (fr_map fun _=>rfl) (.row (by decide) rfl (fr_map fun _=>rfl) (.box (by decide) rfl (blkAs_cells (.cons (lstC_ren rfl (by decide)) (.cons (lstC_ren rfl (by decide)) .nil))) (.box (by decide) rfl (blkAs_cells (.sm rfl (.sm rfl .nil))) (.box (by decide) rfl (blkAs_cells (.sm rfl .nil)) .nil))))))
abbrev Z9z (F_:Nat→(List TSToken)→(List (List TSTest))→(List Int)→Option (TSPath×Treader)) (o:(TSPath×Treader)):Nat→St→Prop:=fun k s=>∃(r_2:(List TSToken)),∃(p0:(List (List TSTest))),∃(p1:(List Int)),∃(zp0:Bool),(zp0=true→p0=[])∧∃(zp1:Bool),(zp1=true→p1=[])∧F_ k r_2 p0 p1=some o∧s=⟨(ue [(3,(.c (.ref 2 2 0 0))),(2,(.c (.ref 1 2 0 0))),(0,(.c (.ref 0 1 0 0)))]),(upd (upd (upd (upd (upd e0 0 (some (.cells 1 [[.ro false 4 (r_2.map e_TSToken)]]))) 1 (some (.cells 2 [[.ro true 1 [],.ro true 1 []]]))) 2 (some (.cells 2 [[lstC zp0 3 1 p0.length,lstC zp1 4 1 p1.length]]))) 3 (lstB zp0 1 (p0.map (eSl 7 e_TSTest)))) 4 (lstB zp1 1 (p1.map (eK .u8)))),5⟩
noncomputable def Z28 (rec_clerestory_selector_reader_list:Treader→Tx→Option ((List Raw)×Treader)):Nat→(List TSToken)→(List (List TSTest))→(List Int)→Option (TSPath×Treader)
 | 0,_,_,_=>none
 | k+1,r_2,p0,p1 =>
  (Z3k (⟨r_2⟩:Treader)).bind fun r_3 =>
  (Z26 r_3.2).bind fun r_4 =>
  if (((decide (r_4.Raw=[62]))||(decide (r_4.Raw=[43])))||(decide (r_4.Raw=[126]))) then
   (Zg r_3.2).bind fun r_8 =>
   (Z3k r_8.2).bind fun r_9 =>
   (at? r_4.Raw 0).bind fun c_ =>
   (app? 1 p1 [(c_.toNat:Int)]).bind fun r_10 =>
   Z5z rec_clerestory_selector_reader_list (Z28 rec_clerestory_selector_reader_list k) r_9.2.f_l p0 r_10
  else
   if (((r_3.1&&(!decide (r_4.Kind=0)))&&(!decide (r_4.Raw=[44])))&&(!decide (r_4.Raw=[41]))) then
    (app? 1 p1 ([32]:List Int)).bind fun r_11 =>
    Z5z rec_clerestory_selector_reader_list (Z28 rec_clerestory_selector_reader_list k) r_3.2.f_l p0 r_11
   else
    some ((⟨p0,p1⟩:TSPath),r_3.2)
theorem Ze1 {mL:Int}{Q:AExit→St→Prop}{rec_clerestory_selector_reader_list:Treader→Tx→Option ((List Raw)×Treader)}{k:Nat}{r_2:(List TSToken)}{p0:(List (List TSTest))}{p1:(List Int)}{zp0:Bool}(hzp0:zp0=true→p0=[]) {zp1:Bool}(hzp1:zp1=true→p1=[]) {o:(TSPath×Treader)}(h:Z28 rec_clerestory_selector_reader_list k r_2 p0 p1=some o)
  (hr:∀ s,Ends a27.results 1 (Z5y o) .ret s→Q .ret s)
  (hrec_clerestory_selector_reader_list:Z1h mL rec_clerestory_selector_reader_list) :
  Sv Tryz.prog (GG mL) 1 (.loop a27_c1) Q ⟨(ue [(3,(.c (.ref 2 2 0 0))),(2,(.c (.ref 1 2 0 0))),(0,(.c (.ref 0 1 0 0)))]),(upd (upd (upd (upd (upd e0 0 (some (.cells 1 [[.ro false 4 (r_2.map e_TSToken)]]))) 1 (some (.cells 2 [[.ro true 1 [],.ro true 1 []]]))) 2 (some (.cells 2 [[lstC zp0 3 1 p0.length,lstC zp1 4 1 p1.length]]))) 3 (lstB zp0 1 (p0.map (eSl 7 e_TSTest)))) 4 (lstB zp1 1 (p1.map (eK .u8)))),5⟩:=by
 refine Sv.loop (I:=Z9z (Z28 rec_clerestory_selector_reader_list) o) (fun k s hI=>?_) ⟨r_2,p0,p1,zp0,hzp0,zp1,hzp1,h,rfl⟩
 clear h
 clear hzp1 hzp0 zp1 zp0 p1 p0 r_2
 obtain ⟨r_2,p0,p1,zp0,hzp0,zp1,hzp1,h,rfl⟩:=hI
 cases k with
 | zero=>cases h
 | succ k =>
 rw [Z28] at h
 have hself:Z9x (Z28 rec_clerestory_selector_reader_list k) o (rnd 1 (Z9z (Z28 rec_clerestory_selector_reader_list) o) k Q):=fun r_2 p0 p1 zp0 hzp0 zp1 hzp1 h s hw=>⟨_,k,hw,Nat.lt_succ_self k,r_2,p0,p1,zp0,hzp0,zp1,hzp1,h,rfl⟩
 refine Sv.block<|ssr<|un1 rfl ?_
 obtain ⟨r_3,hr2,h⟩:=bnd h
 refine un<|ac_gen (bs:=[0]) («as»:=[(.c (.ref 0 1 0 0))]) (h2:=_) (h1:=(upd e0 0 (some (.cells 1 [[.ro false 4 (r_2.map e_TSToken)]])))) (Z5n hr2) rfl (.cons (.c (.ref rfl (by decide))) .nil) (hsub_refl _) (.cons rfl (.nil _)) hcs (by decide) (by decide) (.cons (.c (.ref rfl (by decide))) .nil) (.box (by decide) rfl (blkAs_cells (.sm rfl .nil)) .nil) ?_
 rintro _ _ _ hn ⟨rfl,rfl,rfl⟩
 refine ⟨.inl rfl,(upd (rem [0] _) 0 (some (.cells 1 [[.ro false 4 (r_3.2.f_l.map e_TSToken)]]))),fun hbd=>(m3_cons (m3_box rfl rfl) (m3_rem (in_cons (by decide) (in_nil _)) (.cons (by decide) .nil) hbd)),(B r_3.1),5,rfl,rfl,?_⟩
 refine un1 rfl<|dnil<|ssr<|un1 rfl ?_
 obtain ⟨r_4,hr3,h⟩:=bnd h
 refine un<|ac_lend (h2:=(upd _ 0 none)) (Z3j hr3) rfl (.cons (.c (ref_ro rfl (gone rfl) (.sm rfl .nil) rfl)) .nil) (hsub_none (hsub_refl _)) rfl rfl (.inr rfl)<|un<|a2v (v:=(.c (.ref 5 4 0 0))) (h' := upd _ 5 (some (.cells 4 [[cI 0,.str [],.str [],cI 0]]))) (n' := 6) rfl rfl hcs<|un<|a2n (h' := upd _ 5 (some (.cells 4 [(e_TSToken r_4)]))) (n' := 6) rfl rfl hcs<|dnil<|Sv.seq<|Sv.block<|ssr<|un1 (v:=(.c (.ref 5 4 0 1))) rfl<|un1 (v:=(S r_4.Raw)) rfl<|un1 (v:=(B (decide (r_4.Raw=[62])))) rfl<|un1 rfl ?_
 refine gjoin 4 (d:=23) (v:=(B ((decide (r_4.Raw=[62]))||(decide (r_4.Raw=[43]))))) (fun X hX=>?_) ?_
 ·refine split2 (fun hc1=>?_) (fun hc1=>?_)
  ·refine gs rfl rfl<|gs rfl rfl<|gs rfl rfl<|un1 (v:=(B true)) rfl<|dnil ?_
   exact hX _ (.putEq (by rw [hc1]; rfl) (.skp (.skp (.skp (.putEq (by rw [hc1]) (.refl _)) rfl) rfl) rfl))
  ·refine gt rfl<|a1 (v:=(.c (.ref 5 4 0 1))) rfl<|gt rfl<|a1 (v:=(S r_4.Raw)) rfl<|gt rfl<|a1 (v:=(B (decide (r_4.Raw=[43])))) rfl<|un1 (v:=(B (decide (r_4.Raw=[43])))) rfl<|dnil ?_
   exact hX _ (.putEq (by rw [hc1]; rfl) (.skp (.skp (.skp (.putEq (by rw [hc1]) (.refl _)) rfl) rfl) rfl))
 refine un1 rfl ?_
 refine gjoin 4 (d:=28) (v:=(B (((decide (r_4.Raw=[62]))||(decide (r_4.Raw=[43])))||(decide (r_4.Raw=[126]))))) (fun X hX=>?_) ?_
 ·refine split2 (fun hc2=>?_) (fun hc2=>?_)
  ·refine gs rfl rfl<|gs rfl rfl<|gs rfl rfl<|un1 (v:=(B true)) rfl<|dnil ?_
   exact hX _ (.putEq (by rw [hc2]; rfl) (.skp (.skp (.skp (.putEq (by rw [hc2]) (.refl _)) rfl) rfl) rfl))
  ·refine gt rfl<|a1 (v:=(.c (.ref 5 4 0 1))) rfl<|gt rfl<|a1 (v:=(S r_4.Raw)) rfl<|gt rfl<|a1 (v:=(B (decide (r_4.Raw=[126])))) rfl<|un1 (v:=(B (decide (r_4.Raw=[126])))) rfl<|dnil ?_
   exact hX _ (.putEq (by rw [hc2]; rfl) (.skp (.skp (.skp (.putEq (by rw [hc2]) (.refl _)) rfl) rfl) rfl))
 refine un1 rfl<|dnil ?_
 refine Sv.cnd rfl h (fun h=>?_) fun h=>?_
 ·refine ssr<|un1 rfl ?_
  obtain ⟨r_8,hr6,h⟩:=bnd h
  refine un<|ac_gen (bs:=[0]) («as»:=[(.c (.ref 0 1 0 0))]) (h2:=_) (h1:=(upd e0 0 (some (.cells 1 [[.ro false 4 (r_3.2.f_l.map e_TSToken)]])))) (Zv hr6) rfl (.cons (.c (.ref rfl (by decide))) .nil) (hsub_refl _) (.cons rfl (.nil _)) hcs (by decide) (by decide) (.cons (.c (.ref rfl (by decide))) .nil) (.box (by decide) rfl (blkAs_cells (.sm rfl .nil)) .nil) ?_
  rintro _ _ _ hn ⟨rfl,rfl,rfl⟩
  refine ⟨.inl rfl,(upd (rem [0] _) 0 (some (.cells 1 [[.ro false 4 (r_8.2.f_l.map e_TSToken)]]))),fun hbd=>(m3_cons (m3_box rfl rfl) (m3_rem (in_cons (by decide) (in_nil _)) (.cons (by decide) .nil) hbd)),(.agg (e_TSToken r_8.1)),6,rfl,rfl,?_⟩
  refine dnil<|ssr<|un1 rfl ?_
  obtain ⟨r_9,hr7,h⟩:=bnd h
  refine un<|ac_gen (bs:=[0]) («as»:=[(.c (.ref 0 1 0 0))]) (h2:=_) (h1:=(upd e0 0 (some (.cells 1 [[.ro false 4 (r_8.2.f_l.map e_TSToken)]])))) (Z5n hr7) rfl (.cons (.c (.ref rfl (by decide))) .nil) (hsub_refl _) (.cons rfl (.nil _)) hcs (by decide) (by decide) (.cons (.c (.ref rfl (by decide))) .nil) (.box (by decide) rfl (blkAs_cells (.sm rfl .nil)) .nil) ?_
  rintro _ _ _ hn ⟨rfl,rfl,rfl⟩
  refine ⟨.inl rfl,(upd (rem [0] _) 0 (some (.cells 1 [[.ro false 4 (r_9.2.f_l.map e_TSToken)]]))),fun hbd=>(m3_cons (m3_box rfl rfl) (m3_rem (in_cons (by decide) (in_nil _)) (.cons (by decide) .nil) hbd)),(B r_9.1),6,rfl,rfl,?_⟩
  refine dnil<|Sv.drawn<|un1 (v:=(.c (.ref 2 2 0 1))) rfl<|un1 (v:=(lstV zp1 4 1 p1.length)) rfl<|un1 (v:=(.c (.ref 5 4 0 1))) rfl<|un1 (v:=(S r_4.Raw)) rfl ?_
  obtain ⟨c_,hx1,h⟩:=bnd h
  refine un1 (v:=(.c (.val (.int .u8 (c_.toNat:Int))))) (s_idxS rfl rfl hx1)<|un<|a2v (v:=(lstV false 6 1 [(c_.toNat:Int)].length)) (h' := upd _ 6 (lstB false 1 ([(c_.toNat:Int)].map (eK .u8)))) (n' := 7) rfl rfl (fun _=>rfl) ?_
  obtain ⟨r_10,hr8,h⟩:=bnd h
  have hz2:(zp1&&[(c_.toNat:Int)].isEmpty)=true→r_10=[]:=app_nil (z:=zp1) (ys:=[(c_.toNat:Int)]) hzp1 hr8
  refine un<|a2v rfl (s_app (xs:=p1) (ys:=[(c_.toNat:Int)]) (e:=(eK .u8)) (z:=zp1) (b:=4) rfl rfl hzp1 rfl rfl (slc_lst rfl (List.length_map _).symm (map_nil_of hcs)) hr8) hcs<|un1 (v:=(.c (.ref 2 2 0 1))) rfl<|un<|a2n (h' := upd _ 2 (some (.cells 2 [[lstC zp0 3 1 p0.length,lstC (zp1&&[(c_.toNat:Int)].isEmpty) 7 1 r_10.length]]))) (n' := 8) rfl rfl hcs<|dnil ?_
  exact Sv.weak (weak_canon [0,1,2,3,7] rfl (by decide) (by decide) (by decide) (.cr rfl rfl rfl (.cr rfl rfl rfl (.cr rfl rfl rfl .nil))) (.row (by decide) rfl (fr_map fun _=>rfl) (.row (by decide) rfl (fr_map fun _=>rfl) (.box (by decide) rfl (blkAs_cells (.cons (lstC_ren rfl (by decide)) (.cons (lstC_ren rfl (by decide)) .nil))) (.box (by decide) rfl (blkAs_cells (.sm rfl (.sm rfl .nil))) (.box (by decide) rfl (blkAs_cells (.sm rfl .nil)) .nil)))))) (Z9y hzp0 hz2 h hself hr hrec_clerestory_selector_reader_list)
 ·refine ssr<|un1 rfl<|un1 rfl ?_
  refine gjoin 4 (d:=47) (v:=(B (r_3.1&&(!decide (r_4.Kind=0))))) (fun X hX=>?_) ?_
  ·refine split2 (fun hc4=>?_) (fun hc4=>?_)
   ·refine gt rfl<|a1 (v:=(.c (.ref 5 4 0 0))) rfl<|gt rfl<|a1 (v:=(I r_4.Kind)) rfl<|gt rfl<|a1 (v:=(B (!decide (r_4.Kind=0)))) rfl<|un1 (v:=(B (!decide (r_4.Kind=0)))) rfl<|dnil ?_
    exact hX _ (.putEq (by rw [hc4]; rfl) (.skp (.skp (.skp (.putEq (by rw [hc4]) (.refl _)) rfl) rfl) rfl))
   ·refine gs rfl rfl<|gs rfl rfl<|gs rfl rfl<|un1 (v:=(B false)) rfl<|dnil ?_
    exact hX _ (.putEq (by rw [hc4]; rfl) (.skp (.skp (.skp (.putEq (by rw [hc4]) (.refl _)) rfl) rfl) rfl))
  refine un1 rfl ?_
  refine gjoin 4 (d:=52) (v:=(B ((r_3.1&&(!decide (r_4.Kind=0)))&&(!decide (r_4.Raw=[44]))))) (fun X hX=>?_) ?_
  ·refine split2 (fun hc5=>?_) (fun hc5=>?_)
   ·refine gt rfl<|a1 (v:=(.c (.ref 5 4 0 1))) rfl<|gt rfl<|a1 (v:=(S r_4.Raw)) rfl<|gt rfl<|a1 (v:=(B (!decide (r_4.Raw=[44])))) rfl<|un1 (v:=(B (!decide (r_4.Raw=[44])))) rfl<|dnil ?_
    exact hX _ (.putEq (by rw [hc5]; rfl) (.skp (.skp (.skp (.putEq (by rw [hc5]) (.refl _)) rfl) rfl) rfl))
   ·refine gs rfl rfl<|gs rfl rfl<|gs rfl rfl<|un1 (v:=(B false)) rfl<|dnil ?_
    exact hX _ (.putEq (by rw [hc5]; rfl) (.skp (.skp (.skp (.putEq (by rw [hc5]) (.refl _)) rfl) rfl) rfl))
  refine un1 rfl ?_
  refine gjoin 4 (d:=57) (v:=(B (((r_3.1&&(!decide (r_4.Kind=0)))&&(!decide (r_4.Raw=[44])))&&(!decide (r_4.Raw=[41]))))) (fun X hX=>?_) ?_
  ·refine split2 (fun hc6=>?_) (fun hc6=>?_)
   ·refine gt rfl<|a1 (v:=(.c (.ref 5 4 0 1))) rfl<|gt rfl<|a1 (v:=(S r_4.Raw)) rfl<|gt rfl<|a1 (v:=(B (!decide (r_4.Raw=[41])))) rfl<|un1 (v:=(B (!decide (r_4.Raw=[41])))) rfl<|dnil ?_
    exact hX _ (.putEq (by rw [hc6]; rfl) (.skp (.skp (.skp (.putEq (by rw [hc6]) (.refl _)) rfl) rfl) rfl))
   ·refine gs rfl rfl<|gs rfl rfl<|gs rfl rfl<|un1 (v:=(B false)) rfl<|dnil ?_
    exact hX _ (.putEq (by rw [hc6]; rfl) (.skp (.skp (.skp (.putEq (by rw [hc6]) (.refl _)) rfl) rfl) rfl))
  refine un1 rfl<|dnil ?_
  refine Sv.cnd rfl h (fun h=>?_) fun h=>?_
  ·refine srg<|un1 (v:=(.c (.ref 2 2 0 1))) rfl<|un1 (v:=(lstV zp1 4 1 p1.length)) rfl<|un<|a2v (v:=(lstV false 6 1 ([32]:List Int).length)) (h' := upd _ 6 (lstB false 1 (([32]:List Int).map (eK .u8)))) (n' := 7) rfl rfl hcs ?_
   obtain ⟨r_11,hr9,h⟩:=bnd h
   have hz3:(zp1&&([32]:List Int).isEmpty)=true→r_11=[]:=app_nil (z:=zp1) (ys:=([32]:List Int)) hzp1 hr9
   refine un<|a2v rfl (s_app (xs:=p1) (ys:=([32]:List Int)) (e:=(eK .u8)) (z:=zp1) (b:=4) rfl rfl hzp1 rfl rfl (slc_lst rfl (List.length_map _).symm (map_nil_of hcs)) hr9) hcs<|un1 (v:=(.c (.ref 2 2 0 1))) rfl<|un<|a2n (h' := upd _ 2 (some (.cells 2 [[lstC zp0 3 1 p0.length,lstC (zp1&&([32]:List Int).isEmpty) 7 1 r_11.length]]))) (n' := 8) rfl rfl hcs<|dnil ?_
   exact Sv.weak (weak_canon [0,1,2,3,7] rfl (by decide) (by decide) (by decide) (.cr rfl rfl rfl (.cr rfl rfl rfl (.cr rfl rfl rfl .nil))) (.row (by decide) rfl (fr_map fun _=>rfl) (.row (by decide) rfl (fr_map fun _=>rfl) (.box (by decide) rfl (blkAs_cells (.cons (lstC_ren rfl (by decide)) (.cons (lstC_ren rfl (by decide)) .nil))) (.box (by decide) rfl (blkAs_cells (.sm rfl (.sm rfl .nil))) (.box (by decide) rfl (blkAs_cells (.sm rfl .nil)) .nil)))))) (Z9y hzp0 hz3 h hself hr hrec_clerestory_selector_reader_list)
  ·refine ssr<|un1 (v:=(.agg [lstC zp0 3 1 p0.length,lstC zp1 4 1 p1.length])) rfl<|un<|a2n (h' := upd _ 1 (some (.cells 2 [[lstC zp0 3 1 p0.length,lstC zp1 4 1 p1.length]]))) (n' := 6) rfl rfl hcs<|dnil<|Sv.ret ?_
   replace h:=Option.some.inj h
   subst h
   exact hr _ ⟨_,.refl _,_,rfl,⟨upd e0 0 (some (.agg [lstC zp0 1 1 p0.length,lstC zp1 2 1 p1.length])),(upd (upd (upd e0 0 (some (.cells 1 [[.ro false 4 (r_3.2.f_l.map e_TSToken)]]))) 1 (lstB zp0 1 (p0.map (eSl 7 e_TSTest)))) 2 (lstB zp1 1 (p1.map (eK .u8)))),3⟩,(.agg [lstC zp0 1 1 p0.length,lstC zp1 2 1 p1.length]),weak_canon2 [0,3,4] [0,1,2] (by decide) (by decide) (by decide) (.cons (by decide) (.cons (by decide) (.cons (by decide) .nil))) (.cons rfl (avAs_agg (.cons (lstC_ren rfl (by decide)) (.cons (lstC_ren rfl (by decide)) .nil))) .nil) (.row (by decide) rfl (fr_map fun _=>rfl) (.row (by decide) rfl (fr_map fun _=>rfl) (.box (by decide) rfl (blkAs_cells (.sm rfl .nil)) .nil))),rfl,zp0,hzp0,zp1,hzp1,rfl,rfl,rfl⟩
noncomputable def Z7h (rec_clerestory_selector_reader_list:Treader→Tx→Option ((List Raw)×Treader)) (r_:Treader):Option (TSPath×Treader) :=
 (Z5x rec_clerestory_selector_reader_list r_).bind fun r_1 =>
 limF fun kk=>Z28 rec_clerestory_selector_reader_list kk r_1.2.f_l [r_1.1] ([]:List Int)
theorem Ze2 {mL:Int}{rec_clerestory_selector_reader_list:Treader→Tx→Option ((List Raw)×Treader)}(hrec_clerestory_selector_reader_list:Z1h mL rec_clerestory_selector_reader_list) {r_:Treader}{r:(TSPath×Treader)}(h:Z7h rec_clerestory_selector_reader_list r_=some r):ACalls Tryz.prog (GG mL) 27 [(.c (.ref 0 1 0 0))] (upd e0 0 (some (.cells 1 [[.ro false 4 (r_.f_l.map e_TSToken)]]))) 1 (Z5y r):=by
 refine acalls_of_sv hmix c27 (R:=Z5y r) ?_
 unfold Z7h at h
 refine ssr<|un<|a2v (v:=(.c (.ref 1 2 0 0))) (h' := upd _ 1 (some (.cells 2 [[.ro true 1 [],.ro true 1 []]]))) (n' := 2) rfl rfl hcs<|dnil<|ssr<|un1 rfl ?_
 obtain ⟨r_1,hr1,h⟩:=bnd h
 refine un<|ac_gen (bs:=[0]) («as»:=[(.c (.ref 0 1 0 0))]) (h2:=_) (h1:=(upd e0 0 (some (.cells 1 [[.ro false 4 (r_.f_l.map e_TSToken)]])))) (Z7g hrec_clerestory_selector_reader_list hr1) rfl (.cons (.c (.ref rfl (by decide))) .nil) (hsub_refl _) (.cons rfl (.nil _)) hcs (by decide) (by decide) (.cons (.c (.ref rfl (by decide))) .nil) (.box (by decide) rfl (blkAs_cells (.sm rfl .nil)) .nil) ?_
 rintro _ _ _ hn ⟨z_,hz_,rfl,rfl,rfl⟩
 refine ⟨.inl rfl,(upd (upd (rem [0] _) 0 (some (.cells 1 [[.ro false 4 (r_1.2.f_l.map e_TSToken)]]))) 2 (lstB z_ 7 (r_1.1.map e_TSTest))),fun hbd=>(m3_cons (m3_row rfl (fr_map fun _=>rfl)) (m3_cons (m3_box rfl rfl) (m3_rem (in_cons (by decide) (in_nil _)) (.cons (by decide) (.cons (by decide) .nil)) hbd))),(lstV z_ 2 7 r_1.1.length),3,(by cases z_ <;> rfl),rfl,?_⟩
 refine dweak (show Weak 1 _ ⟨(ue [(7,(.c (.ro false 7 (r_1.1.map e_TSTest)))),(6,(.c (.ref 0 1 0 0))),(2,(.c (.ref 1 2 0 0))),(0,(.c (.ref 0 1 0 0)))]),(upd (upd e0 0 (some (.cells 1 [[.ro false 4 (r_1.2.f_l.map e_TSToken)]]))) 1 (some (.cells 2 [[.ro true 1 [],.ro true 1 []]]))),3⟩ from (weak_canon [0,1,1002] rfl (by decide) (by decide) (by decide) (.cons rfl (.c (lstC_ro (es:=List.map e_TSTest r_1.1) rfl (List.length_map e_TSTest).symm (map_nil_of hz_) (fun b x hx=>not_in (bs:=[0,1,1002]) rfl b (((.cons (by decide) (.cons (by decide) .nil)):HLt _ _) b x hx)) (fr_map fun _=>rfl))) (.cr rfl rfl rfl (.cr rfl rfl rfl (.cr rfl rfl rfl .nil)))) (.box (by decide) rfl (blkAs_cells (.sm rfl (.sm rfl .nil))) (.box (by decide) rfl (blkAs_cells (.sm rfl .nil)) .nil))))<|un<|a2v (v:=(lstV false 3 1 [r_1.1].length)) (h' := upd _ 3 (lstB false 1 ([r_1.1].map (eSl 7 e_TSTest)))) (n' := 4) rfl rfl hcs<|un1 (v:=(.agg [lstC false 3 1 [r_1.1].length,.ro true 1 []])) rfl<|un<|a2v (v:=(.c (.ref 4 2 0 0))) (h' := upd _ 4 (some (.cells 2 [[.ro true 1 [],.ro true 1 []]]))) (n' := 5) rfl rfl hcs<|un<|a2n (h' := upd _ 4 (some (.cells 2 [[lstC false 3 1 [r_1.1].length,.ro true 1 []]]))) (n' := 5) rfl rfl hcs<|dnil<|Sv.block ?_
 obtain ⟨kk,h⟩:=limF_some h
 refine Sv.weak (weak_canon [0,1,4,3,1000] rfl (by decide) (by decide) (by decide) (.cr rfl rfl rfl (.cr rfl rfl rfl (.cr rfl rfl rfl .nil))) (.non (by decide) (.row (by decide) rfl (fr_map fun _=>rfl) (.box (by decide) rfl (blkAs_cells (.cons (lstC_ren rfl (by decide)) (.sm rfl .nil))) (.box (by decide) rfl (blkAs_cells (.sm rfl (.sm rfl .nil))) (.box (by decide) rfl (blkAs_cells (.sm rfl .nil)) .nil)))))) (Ze1 hcs (fun _=>rfl) h  (fun s hs=>hs) hrec_clerestory_selector_reader_list)
def a19_c0:ACode:=(sr [(mV 32 5),(mV 4 32)]
 .ret)
def a19_c1:ACode:=(.block 1 (sr [(mV 6 0),(oP 7 (.call 26 [(.tmp 6)]))]
 (sr [(mV 8 5),(mV 9 0),(oP 10 (.call 27 [(.tmp 9)])),(oP 11 (.bslice 2 [(.ro true 1 []),(.ro true 1 [])] 1 [(0,(.tmp 10))])),(oP 12 (.app 2 48 (.tmp 8) (.tmp 11))),(mV 5 12)]
 (sr [(mV 13 0),(oP 14 (.call 26 [(.tmp 13)]))]
 (.seq (sr [(mV 15 0),(oP 16 (.call 28 [(.tmp 15),(.const (.c (.str [44])))]))]
 (.cond (.tmp 16) (.exit 1) .skip))
 (.seq (sr [(mV 17 1),(oP 18 (.bin .eql (.tmp 17) (.const (.c (.str [])))))]
 (.cond (.tmp 18) (.region [(mV 19 0),(mV 20 0),(oP 21 (.nilc (.tmp 20))),(oP 22 (.faddr 0 (.tmp 21))),(oP 23 (.load false 1 (.tmp 22))),(oP 24 (.len (.tmp 23))),(oP 25 (.bin .eql (.tmp 24) (kI 0))),(oP 26 (.call 29 [(.tmp 19),(.tmp 25)]))]) (.region [(mV 27 0),(mV 28 0),(mV 29 1),(oP 30 (.call 28 [(.tmp 28),(.tmp 29)])),(oP 31 (.call 29 [(.tmp 27),(.tmp 30)]))])))
 a19_c0))))))
def a19:AFunc:=⟨2,[(.tmp 4)],(sr [(oP 4 (.mov (.const (.c (.ro true 2 [])))))]
 (sr [(oP 5 (.mov (.const (.c (.ro true 2 [])))))]
 (.block 0 (.loop a19_c1))))⟩
theorem c19:compFunc Tryz.prog 19=some a19:=by kernel_rfl
abbrev Za0 (end_:Tx) (F_:(List TSToken)→(List Raw)→Option ((List Raw)×Treader)) (o:((List Raw)×Treader)) (R_:St→Prop):Prop:=∀(r_1:(List TSToken)) (out:(List Raw)) (zout:Bool) (_:zout=true→out=[]),F_ r_1 out=some o→∀ s,Weak 1 s ⟨(ue [(5,(lstV zout 1 2 out.length)),(1,(S end_)),(0,(.c (.ref 0 1 0 0)))]),(upd (upd e0 0 (some (.cells 1 [[.ro false 4 (r_1.map e_TSToken)]]))) 1 (lstB zout 2 (out.map eRaw))),2⟩→R_ s
abbrev Ze3 (mL:Int) (Q:AExit→St→Prop):AExit→St→Prop:=ABlock 1 Q
noncomputable def Z60 (end_:Tx) (self:(List TSToken)→(List Raw)→Option ((List Raw)×Treader)) (r_7:(List TSToken)) (out1:(List Raw)):Option ((List Raw)×Treader) :=
 some (out1,(⟨r_7⟩:Treader))
theorem Za1 {mL:Int}{Q:AExit→St→Prop}{end_:Tx}{self:(List TSToken)→(List Raw)→Option ((List Raw)×Treader)}{r_7:(List TSToken)}{out1:(List Raw)}{zout1:Bool}(hzout1:zout1=true→out1=[]) {o:((List Raw)×Treader)}(h:Z60 end_ self r_7 out1=some o)
  (hself:Za0 end_ self o (Q .normal))
  (hr:∀ s,Ends a19.results 1 (Z4l o) .ret s→Q .ret s) :
  Sv Tryz.prog (GG mL) 1 a19_c0 (Ze3 mL Q) ⟨(ue [(5,(lstV zout1 1 2 out1.length)),(0,(.c (.ref 0 1 0 0)))]),(upd (upd e0 0 (some (.cells 1 [[.ro false 4 (r_7.map e_TSToken)]]))) 1 (lstB zout1 2 (out1.map eRaw))),2⟩:=by
 unfold Z60 at h
 refine ssr<|un1 rfl<|un1 rfl<|dnil<|Sv.ret ?_
 replace h:=Option.some.inj h
 subst h
 exact hr _ ⟨_,.refl _,_,rfl,⟨upd e0 0 (some (lstV zout1 1 2 out1.length)),(upd (upd e0 0 (some (.cells 1 [[.ro false 4 (r_7.map e_TSToken)]]))) 1 (lstB zout1 2 (out1.map eRaw))),2⟩,(lstV zout1 1 2 out1.length),weak_canon2 [0,1] [0,1] (by decide) (by decide) (by decide) (.cons (by decide) (.cons (by decide) .nil)) (.cons rfl (.c (lsr rfl rfl)) .nil) (.row (by decide) rfl (fr_map fr_raw) (.box (by decide) rfl (blkAs_cells (.sm rfl .nil)) .nil)),rfl,zout1,hzout1,rfl,rfl,rfl⟩
abbrev Za2 (end_:Tx) (F_:Nat→(List TSToken)→(List Raw)→Option ((List Raw)×Treader)) (o:((List Raw)×Treader)):Nat→St→Prop:=fun k s=>∃(r_1:(List TSToken)),∃(out:(List Raw)),∃(zout:Bool),(zout=true→out=[])∧F_ k r_1 out=some o∧s=⟨(ue [(5,(lstV zout 1 2 out.length)),(1,(S end_)),(0,(.c (.ref 0 1 0 0)))]),(upd (upd e0 0 (some (.cells 1 [[.ro false 4 (r_1.map e_TSToken)]]))) 1 (lstB zout 2 (out.map eRaw))),2⟩
noncomputable def Z1r (recf:Treader→Tx→Option ((List Raw)×Treader)) (end_:Tx):Nat→(List TSToken)→(List Raw)→Option ((List Raw)×Treader)
 | 0,_,_=>none
 | k+1,r_1,out =>
  (Z3k (⟨r_1⟩:Treader)).bind fun r_2 =>
  (Z7h recf r_2.2).bind fun r_3 =>
  (app? 48 out [(⟨e_TSPath r_3.1,rfl⟩:Raw)]).bind fun r_4 =>
  (Z3k r_3.2).bind fun r_5 =>
  (Z27 r_5.2 [44]).bind fun r_6 =>
  if r_6.1 then
   (Z1r recf end_ k) r_6.2.f_l r_4
  else
   if decide (end_=[]) then
    (Zx r_6.2 (decide ((r_6.2.f_l.length:Int)=0))).bind fun r_8 =>
    Z60 end_ (Z1r recf end_ k) r_6.2.f_l r_4
   else
    (Z27 r_6.2 end_).bind fun r_9 =>
    (Zx r_9.2 r_9.1).bind fun r_10 =>
    Z60 end_ (Z1r recf end_ k) r_9.2.f_l r_4
theorem Ze4 {mL:Int}{Q:AExit→St→Prop}{recf:Treader→Tx→Option ((List Raw)×Treader)}{end_:Tx}{k:Nat}{r_1:(List TSToken)}{out:(List Raw)}{zout:Bool}(hzout:zout=true→out=[]) {o:((List Raw)×Treader)}(h:Z1r recf end_ k r_1 out=some o)
  (hr:∀ s,Ends a19.results 1 (Z4l o) .ret s→Q .ret s)
  (hrec:Z1h mL recf) :
  Sv Tryz.prog (GG mL) 1 (.loop a19_c1) Q ⟨(ue [(5,(lstV zout 1 2 out.length)),(1,(S end_)),(0,(.c (.ref 0 1 0 0)))]),(upd (upd e0 0 (some (.cells 1 [[.ro false 4 (r_1.map e_TSToken)]]))) 1 (lstB zout 2 (out.map eRaw))),2⟩:=by
 refine Sv.loop (I:=Za2 end_ (Z1r recf end_) o) (fun k s hI=>?_) ⟨r_1,out,zout,hzout,h,rfl⟩
 clear h
 clear hzout zout out r_1
 obtain ⟨r_1,out,zout,hzout,h,rfl⟩:=hI
 cases k with
 | zero=>cases h
 | succ k =>
 rw [Z1r] at h
 have hself:Za0 end_ (Z1r recf end_ k) o (rnd 1 (Za2 end_ (Z1r recf end_) o) k Q):=fun r_1 out zout hzout h s hw=>⟨_,k,hw,Nat.lt_succ_self k,r_1,out,zout,hzout,h,rfl⟩
 refine Sv.block<|ssr<|un1 rfl ?_
 obtain ⟨r_2,hr1,h⟩:=bnd h
 refine un<|ac_gen (bs:=[0]) («as»:=[(.c (.ref 0 1 0 0))]) (h2:=_) (h1:=(upd e0 0 (some (.cells 1 [[.ro false 4 (r_1.map e_TSToken)]])))) (Z5n hr1) rfl (.cons (.c (.ref rfl (by decide))) .nil) (hsub_refl _) (.cons rfl (.nil _)) hcs (by decide) (by decide) (.cons (.c (.ref rfl (by decide))) .nil) (.box (by decide) rfl (blkAs_cells (.sm rfl .nil)) .nil) ?_
 rintro _ _ _ hn ⟨rfl,rfl,rfl⟩
 refine ⟨.inl rfl,(upd (rem [0] _) 0 (some (.cells 1 [[.ro false 4 (r_2.2.f_l.map e_TSToken)]]))),fun hbd=>(m3_cons (m3_box rfl rfl) (m3_rem (in_cons (by decide) (in_nil _)) (.cons (by decide) .nil) hbd)),(B r_2.1),2,rfl,rfl,?_⟩
 refine dnil<|ssr<|un1 rfl<|un1 rfl ?_
 obtain ⟨r_3,hr2,h⟩:=bnd h
 refine un<|ac_gen (bs:=[0]) («as»:=[(.c (.ref 0 1 0 0))]) (h2:=_) (h1:=(upd e0 0 (some (.cells 1 [[.ro false 4 (r_2.2.f_l.map e_TSToken)]])))) (Ze2 hrec hr2) rfl (.cons (.c (.ref rfl (by decide))) .nil) (hsub_refl _) (.cons rfl (.nil _)) hcs (by decide) (by decide) (.cons (.c (.ref rfl (by decide))) .nil) (.box (by decide) rfl (blkAs_cells (.sm rfl .nil)) .nil) ?_
 rintro _ _ _ hn ⟨z_,hz_,z_1,hz_1,rfl,rfl,rfl⟩
 refine ⟨.inl rfl,(upd (upd (upd (rem [0] _) 0 (some (.cells 1 [[.ro false 4 (r_3.2.f_l.map e_TSToken)]]))) 2 (lstB z_ 1 (r_3.1.Steps.map (eSl 7 e_TSTest)))) 3 (lstB z_1 1 (r_3.1.Joins.map (eK .u8)))),fun hbd=>(m3_cons (m3_row rfl (fr_map fun _=>rfl)) (m3_cons (m3_row rfl (fr_map fun _=>rfl)) (m3_cons (m3_box rfl rfl) (m3_rem (in_cons (by decide) (in_nil _)) (.cons (by decide) (.cons (by decide) (.cons (by decide) .nil))) hbd)))),(.agg [lstC z_ 2 1 r_3.1.Steps.length,lstC z_1 3 1 r_3.1.Joins.length]),4,(by cases z_ <;> cases z_1 <;> rfl),rfl,?_⟩
 refine dweak (show Weak 1 _ ⟨(ue [(10,(.agg [.ro false 1 (r_3.1.Steps.map (eSl 7 e_TSTest)),lstC z_1 3 1 r_3.1.Joins.length])),(9,(.c (.ref 0 1 0 0))),(8,(lstV zout 1 2 out.length)),(7,(B r_2.1)),(6,(.c (.ref 0 1 0 0))),(5,(lstV zout 1 2 out.length)),(1,(S end_)),(0,(.c (.ref 0 1 0 0)))]),(upd (upd (upd e0 0 (some (.cells 1 [[.ro false 4 (r_3.2.f_l.map e_TSToken)]]))) 1 (lstB zout 2 (out.map eRaw))) 3 (lstB z_1 1 (r_3.1.Joins.map (eK .u8)))),4⟩ from (weak_canon [0,1,1002,3] rfl (by decide) (by decide) (by decide) (.cons rfl (avAs_agg (.cons (lstC_ro (es:=List.map (eSl 7 e_TSTest) r_3.1.Steps) rfl (List.length_map (eSl 7 e_TSTest)).symm (map_nil_of hz_) (fun b x hx=>not_in (bs:=[0,1,1002,3]) rfl b (((.cons (by decide) (.cons (by decide) (.cons (by decide) .nil))):HLt _ _) b x hx)) (fr_map fun _=>rfl)) (.cons (lstC_ren rfl (by decide)) .nil))) (.cr rfl rfl rfl (.cons rfl (.c (lsr rfl rfl)) (.cf rfl rfl (.cr rfl rfl rfl (.cons rfl (.c (lsr rfl rfl)) (.cf rfl rfl (.cr rfl rfl rfl .nil)))))))) (.row (by decide) rfl (fr_map fun _=>rfl) (.row (by decide) rfl (fr_map fr_raw) (.box (by decide) rfl (blkAs_cells (.sm rfl .nil)) .nil)))))<|dweak (show Weak 1 _ ⟨(ue [(10,(.agg (e_TSPath r_3.1))),(9,(.c (.ref 0 1 0 0))),(8,(lstV zout 1 2 out.length)),(7,(B r_2.1)),(6,(.c (.ref 0 1 0 0))),(5,(lstV zout 1 2 out.length)),(1,(S end_)),(0,(.c (.ref 0 1 0 0)))]),(upd (upd e0 0 (some (.cells 1 [[.ro false 4 (r_3.2.f_l.map e_TSToken)]]))) 1 (lstB zout 2 (out.map eRaw))),4⟩ from (weak_canon [0,1,1002,1003] rfl (by decide) (by decide) (by decide) (.cons rfl (avAs_agg (.sm rfl (.cons (lstC_ro (es:=List.map (eK .u8) r_3.1.Joins) rfl (List.length_map (eK .u8)).symm (map_nil_of hz_1) (fun b x hx=>not_in (bs:=[0,1,1002,1003]) rfl b (((.cons (by decide) (.cons (by decide) .nil)):HLt _ _) b x hx)) (fr_map fun _=>rfl)) .nil))) (.cr rfl rfl rfl (.cons rfl (.c (lsr rfl rfl)) (.cf rfl rfl (.cr rfl rfl rfl (.cons rfl (.c (lsr rfl rfl)) (.cf rfl rfl (.cr rfl rfl rfl .nil)))))))) (.row (by decide) rfl (fr_map fr_raw) (.box (by decide) rfl (blkAs_cells (.sm rfl .nil)) .nil))))<|un<|a2v (v:=(lstV false 4 2 [(⟨e_TSPath r_3.1,rfl⟩:Raw)].length)) (h' := upd _ 4 (lstB false 2 ([(⟨e_TSPath r_3.1,rfl⟩:Raw)].map eRaw))) (n' := 5) rfl rfl hcs ?_
 obtain ⟨r_4,hr3,h⟩:=bnd h
 have hz1:(zout&&[(⟨e_TSPath r_3.1,rfl⟩:Raw)].isEmpty)=true→r_4=[]:=app_nil (z:=zout) (ys:=[(⟨e_TSPath r_3.1,rfl⟩:Raw)]) hzout hr3
 refine un<|a2v rfl (s_app (xs:=out) (ys:=[(⟨e_TSPath r_3.1,rfl⟩:Raw)]) (e:=eRaw) (z:=zout) (b:=1) rfl rfl hzout rfl rfl (slc_lst rfl (List.length_map _).symm (map_nil_of hcs)) hr3) hcs<|un1 rfl<|dnil<|ssr<|un1 rfl ?_
 obtain ⟨r_5,hr4,h⟩:=bnd h
 refine un<|ac_gen (bs:=[0]) («as»:=[(.c (.ref 0 1 0 0))]) (h2:=_) (h1:=(upd e0 0 (some (.cells 1 [[.ro false 4 (r_3.2.f_l.map e_TSToken)]])))) (Z5n hr4) rfl (.cons (.c (.ref rfl (by decide))) .nil) (hsub_refl _) (.cons rfl (.nil _)) hcs (by decide) (by decide) (.cons (.c (.ref rfl (by decide))) .nil) (.box (by decide) rfl (blkAs_cells (.sm rfl .nil)) .nil) ?_
 rintro _ _ _ hn ⟨rfl,rfl,rfl⟩
 refine ⟨.inl rfl,(upd (rem [0] _) 0 (some (.cells 1 [[.ro false 4 (r_5.2.f_l.map e_TSToken)]]))),fun hbd=>(m3_cons (m3_box rfl rfl) (m3_rem (in_cons (by decide) (in_nil _)) (.cons (by decide) .nil) hbd)),(B r_5.1),6,rfl,rfl,?_⟩
 refine dnil<|Sv.seq<|ssr<|un1 rfl ?_
 obtain ⟨r_6,hr5,h⟩:=bnd h
 refine un<|ac_gen (bs:=[0]) («as»:=[(.c (.ref 0 1 0 0)),(S [44])]) (h2:=_) (h1:=(upd e0 0 (some (.cells 1 [[.ro false 4 (r_5.2.f_l.map e_TSToken)]])))) (Z3m hr5) rfl (.cons (.c (.ref rfl (by decide))) (.cons (avAs_free rfl) .nil)) (hsub_refl _) (.cons rfl (.nil _)) hcs (by decide) (by decide) (.cons (.c (.ref rfl (by decide))) (.cons (avAs_free rfl) .nil)) (.box (by decide) rfl (blkAs_cells (.sm rfl .nil)) .nil) ?_
 rintro _ _ _ hn ⟨rfl,rfl,rfl⟩
 refine ⟨.inl rfl,(upd (rem [0] _) 0 (some (.cells 1 [[.ro false 4 (r_6.2.f_l.map e_TSToken)]]))),fun hbd=>(m3_cons (m3_box rfl rfl) (m3_rem (in_cons (by decide) (in_nil _)) (.cons (by decide) .nil) hbd)),(B r_6.1),6,rfl,rfl,?_⟩
 refine dnil ?_
 refine Sv.cnd rfl h (fun h=>?_) fun h=>?_
 ·refine Sv.exit ?_
  exact hself r_6.2.f_l r_4 (zout&&[(⟨e_TSPath r_3.1,rfl⟩:Raw)].isEmpty) hz1 h _ (weak_canon [0,5] rfl (by decide) (by decide) (by decide) (.cons rfl (.c (lsr rfl rfl)) (.cf rfl rfl (.cr rfl rfl rfl .nil))) (.row (by decide) rfl (fr_map fr_raw) (.box (by decide) rfl (blkAs_cells (.sm rfl .nil)) .nil)))
 ·refine Sv.skip<|Sv.seq<|ssr<|un1 rfl<|un1 (v:=(B (decide (end_=[])))) rfl<|dnil ?_
  refine Sv.cnd rfl h (fun h=>?_) fun h=>?_
  ·refine srg<|un1 rfl<|un1 rfl<|un1 (v:=(.c (.ref 0 1 0 0))) rfl<|un1 (v:=(.c (.ref 0 1 0 0))) rfl<|un1 (v:=(.c (.ro false 4 (r_6.2.f_l.map e_TSToken)))) rfl<|un1 (v:=(I (r_6.2.f_l.length:Int))) (s_len (e:=e_TSToken) (xs:=r_6.2.f_l) rfl)<|un1 (v:=(B (decide ((r_6.2.f_l.length:Int)=0)))) rfl ?_
   obtain ⟨r_8,hr6,h⟩:=bnd h
   refine un<|ac_lend (h2:=(upd _ 0 none)) (Z1f hr6) rfl (.cons (.c (ref_ro rfl (gone rfl) (.sm rfl .nil) rfl)) (.cons (avAs_free rfl) .nil)) (hsub_none (hsub_refl _)) rfl rfl (.inr rfl)<|dnil ?_
   exact Sv.weak (weak_canon [0,5] rfl (by decide) (by decide) (by decide) (.cons rfl (.c (lsr rfl rfl)) (.cr rfl rfl rfl .nil)) (.row (by decide) rfl (fr_map fr_raw) (.box (by decide) rfl (blkAs_cells (.sm rfl .nil)) .nil))) (Za1 hz1 h hself hr)
  ·refine srg<|un1 rfl<|un1 rfl<|un1 rfl ?_
   obtain ⟨r_9,hr7,h⟩:=bnd h
   refine un<|ac_gen (bs:=[0]) («as»:=[(.c (.ref 0 1 0 0)),(S end_)]) (h2:=_) (h1:=(upd e0 0 (some (.cells 1 [[.ro false 4 (r_6.2.f_l.map e_TSToken)]])))) (Z3m hr7) rfl (.cons (.c (.ref rfl (by decide))) (.cons (avAs_free rfl) .nil)) (hsub_refl _) (.cons rfl (.nil _)) hcs (by decide) (by decide) (.cons (.c (.ref rfl (by decide))) (.cons (avAs_free rfl) .nil)) (.box (by decide) rfl (blkAs_cells (.sm rfl .nil)) .nil) ?_
   rintro _ _ _ hn ⟨rfl,rfl,rfl⟩
   refine ⟨.inl rfl,(upd (rem [0] _) 0 (some (.cells 1 [[.ro false 4 (r_9.2.f_l.map e_TSToken)]]))),fun hbd=>(m3_cons (m3_box rfl rfl) (m3_rem (in_cons (by decide) (in_nil _)) (.cons (by decide) .nil) hbd)),(B r_9.1),6,rfl,rfl,?_⟩
   obtain ⟨r_10,hr8,h⟩:=bnd h
   refine un<|ac_lend (h2:=(upd _ 0 none)) (Z1f hr8) rfl (.cons (.c (ref_ro rfl (gone rfl) (.sm rfl .nil) rfl)) (.cons (avAs_free rfl) .nil)) (hsub_none (hsub_refl _)) rfl rfl (.inr rfl)<|dnil ?_
   exact Sv.weak (weak_canon [0,5] rfl (by decide) (by decide) (by decide) (.cons rfl (.c (lsr rfl rfl)) (.cr rfl rfl rfl .nil)) (.row (by decide) rfl (fr_map fr_raw) (.box (by decide) rfl (blkAs_cells (.sm rfl .nil)) .nil))) (Za1 hz1 h hself hr)
noncomputable def Z61:Nat→Treader→Tx→Option ((List Raw)×Treader)
 | 0,_,_=>none
 | k+1,r_,end_ =>
  limF fun kk=>Z1r (Z61 k) end_ kk r_.f_l ([]:List Raw)
noncomputable def Z7i (r_:Treader) (end_:Tx):Option ((List Raw)×Treader) :=
 limF fun kr=>Z61 kr r_ end_
theorem Ze5 {mL:Int}(k:Nat):Z1h mL (Z61 k):=by
 induction k with
 | zero=>intro r_ end_ r h; cases h
 | succ k hrec =>
 intro r_ end_ r h
 refine acalls_of_sv hmix c19 (R:=Z4l r) ?_
 rw [Z61] at h
 refine ssr<|un1 rfl<|dnil<|ssr<|un1 rfl<|dnil<|Sv.block ?_
 obtain ⟨kk,h⟩:=limF_some h
 refine Sv.weak (weak_canon [0,1000] rfl (by decide) (by decide) (by decide) (.cons rfl (.c (.same rfl)) (.cf rfl rfl (.cr rfl rfl rfl .nil))) (.non (by decide) (.box (by decide) rfl (blkAs_cells (.sm rfl .nil)) .nil))) (Ze4 (fun _=>rfl) h  (fun s hs=>hs) hrec)
theorem Ze6 {mL:Int}{r_:Treader}{end_:Tx}{r:((List Raw)×Treader)}(h:Z7i r_ end_=some r):ACalls Tryz.prog (GG mL) 19 [(.c (.ref 0 1 0 0)),(S end_)] (upd e0 0 (some (.cells 1 [[.ro false 4 (r_.f_l.map e_TSToken)]]))) 1 (Z4l r):=by
 unfold Z7i at h
 obtain ⟨k,h⟩:=limF_some h
 exact Ze5 k r_ end_  r h
def a11_c0:ACode:=(.region [(oP 64 (.bin .add (.tmp 34) (kI 1))),(mV 34 64)])
def a11_c1:ACode:=(sr [(oP 35 (.bin .lss (.tmp 34) (.tmp 33)))]
 (.seq (.cond (.tmp 35) .skip (.exit 4))
 (.seq (.block 5 (sr [(oP 36 (.iaddr 7 (.tmp 32) (.tmp 34))),(oP 37 (.load true 7 (.tmp 36))),(oP 12 (.box (.const (.agg [(.val (.int .i64 0)),(.str []),(.val (.int .u8 0)),(.str []),(.val (.int .i64 0)),(.val (.int .i64 0)),(.ro true 2 [])])))),(oN (.store 7 (.tmp 12) (.tmp 37)))]
 (.seq (sr [(oP 38 (.faddr 6 (.tmp 12))),(oP 39 (.load false 1 (.tmp 38))),(oP 40 (.len (.tmp 39))),(oP 41 (.bin .eql (.tmp 40) (kI 0)))]
 (.cond (.tmp 41) (.exit 5) .skip))
 (sr [(oP 43 (.faddr 6 (.tmp 12))),(oP 44 (.load false 1 (.tmp 43))),(mV 45 1),(oP 46 (.bin .add (.tmp 45) (kI 1))),(oP 47 (.call 11 [(.tmp 44),(.tmp 46)])),(mV 42 47),(oP 48 (.ext (.tmp 42) 0)),(oP 49 (.ext (.tmp 42) 1)),(mV 13 48),(mV 14 49)]
 (sr [(mV 50 6),(mV 51 13),(oP 52 (.bin .add (.tmp 50) (.tmp 51))),(mV 6 52)]
 (sr [(mV 53 14),(oP 54 (.un .not (.tmp 53))),(mV 55 54),⟨(some 56),(.mov (.tmp 1)),(some (55,false))⟩,⟨(some 57),(.bin .geq (.tmp 56) (kI 3)),(some (55,false))⟩,(oP 58 (.pick (.tmp 55) kT (.tmp 57))),(mV 59 58),⟨(some 60),(.mov (.tmp 6)),(some (59,false))⟩,⟨(some 61),(.bin .gtr (.tmp 60) (kI 40)),(some (59,false))⟩,(oP 62 (.pick (.tmp 59) kT (.tmp 61)))]
 (.cond (.tmp 62) (sr [(mV 63 6),(mV 4 63),(oP 5 (.mov kF))]
 .ret) .skip)))))))
 a11_c0)))
def a11_c2:ACode:=(sr [(oP 25 (.bin .lss (.tmp 24) (.tmp 23)))]
 (.seq (.cond (.tmp 25) .skip (.exit 2))
 (.seq (.block 3 (sr [(oP 26 (.iaddr 1 (.tmp 22) (.tmp 24))),(oP 27 (.load false 1 (.tmp 26))),(mV 10 27)]
 (sr [(mV 28 6),(mV 29 10),(oP 30 (.len (.tmp 29))),(oP 31 (.bin .add (.tmp 28) (.tmp 30))),(mV 6 31)]
 (sr [(mV 32 10),(oP 33 (.len (.tmp 32))),(oP 34 (.mov (kI 0)))]
 (.block 4 (.loop a11_c1))))))
 (.region [(oP 65 (.bin .add (.tmp 24) (kI 1))),(mV 24 65)]))))
def a11_c3:ACode:=(sr [(oP 18 (.bin .lss (.tmp 17) (.tmp 16)))]
 (.seq (.cond (.tmp 18) .skip (.exit 0))
 (.seq (.block 1 (sr [(oP 19 (.iaddr 2 (.tmp 15) (.tmp 17))),(oP 20 (.load true 2 (.tmp 19))),(oP 8 (.box (.const (.agg [(.ro true 1 []),(.ro true 1 [])])))),(oN (.store 2 (.tmp 8) (.tmp 20)))]
 (sr [(oP 21 (.faddr 0 (.tmp 8))),(oP 22 (.load false 1 (.tmp 21))),(oP 23 (.len (.tmp 22))),(oP 24 (.mov (kI 0)))]
 (.block 2 (.loop a11_c2)))))
 (.region [(oP 66 (.bin .add (.tmp 17) (kI 1))),(mV 17 66)]))))
def a11:AFunc:=⟨2,[(.tmp 4),(.tmp 5)],(sr [(oP 4 (.mov (kI 0))),(oP 5 (.mov kF))]
 (sr [(oP 6 (.mov (kI 0)))]
 (.seq (sr [(mV 15 0),(oP 16 (.len (.tmp 15))),(oP 17 (.mov (kI 0)))]
 (.block 0 (.loop a11_c3)))
 (sr [(mV 67 6),(mV 68 6),(oP 69 (.bin .leq (.tmp 68) (kI 40))),(mV 4 67),(mV 5 69)]
 .ret))))⟩
theorem c11:compFunc Tryz.prog 11=some a11:=by kernel_rfl
def Z4o (r:(Int×Bool)):AV→Heap→Nat→Prop:=fun v h' n' => v=(.tup [(I r.1),(B r.2)])∧(h' = e0)∧n' = 0
def Z62 (mL:Int) (recf:(List Raw)→Int→Option (Int×Bool)):Prop:=∀(l_:(List Raw)) (deep:Int) (r:(Int×Bool)),recf l_ deep=some r→CPure Tryz.prog (GG mL) 11 [(.c (.ro false 2 (l_.map eRaw))),(I deep)] (.tup [(I r.1),(B r.2)])
abbrev Za3 (deep:Int) (l_:(List Raw)) (v17:Int) (x_:TSPath) (v24:Int) (x_1:(List TSTest)) (F_:Int→Int→Option (Int×Bool)) (o:(Int×Bool)) (R_:St→Prop):Prop:=∀(n_4:Int) (v34:Int),F_ n_4 v34=some o→∀ s,Weak 0 s ⟨(ue [(34,(I v34)),(33,(I (x_1.length:Int))),(32,(.c (.ro false 7 (x_1.map e_TSTest)))),(24,(I v24)),(23,(I (x_.Steps.length:Int))),(22,(.c (.ro false 1 (x_.Steps.map (eSl 7 e_TSTest))))),(17,(I v17)),(16,(I (l_.length:Int))),(15,(.c (.ro false 2 (l_.map eRaw)))),(6,(I n_4)),(1,(I deep))]),e0,0⟩→R_ s
abbrev Za4 (deep:Int) (l_:(List Raw)) (v17:Int) (x_:TSPath) (v24:Int) (F_:Int→Option (Int×Bool)) (o:(Int×Bool)) (R_:St→Prop):Prop:=∀(n_5:Int),F_ n_5=some o→∀ s,Weak 0 s ⟨(ue [(24,(I v24)),(23,(I (x_.Steps.length:Int))),(22,(.c (.ro false 1 (x_.Steps.map (eSl 7 e_TSTest))))),(17,(I v17)),(16,(I (l_.length:Int))),(15,(.c (.ro false 2 (l_.map eRaw)))),(6,(I n_5)),(1,(I deep))]),e0,0⟩→R_ s
noncomputable def Z3o (v34:Int) (deep:Int) (l_:(List Raw)) (v17:Int) (x_:TSPath) (v24:Int) (x_1:(List TSTest)) (self:Int→Int→Option (Int×Bool)) (K4_:Int→Option (Int×Bool)) (n_6:Int):Option (Int×Bool) :=
 self n_6 (wi (v34+1))
theorem Za5 {mL:Int}{Q:AExit→St→Prop}{v34:Int}{deep:Int}{l_:(List Raw)}{v17:Int}{x_:TSPath}{v24:Int}{x_1:(List TSTest)}{self:Int→Int→Option (Int×Bool)}{K4_:Int→Option (Int×Bool)}{n_6:Int}{o:(Int×Bool)}(h:Z3o v34 deep l_ v17 x_ v24 x_1 self K4_ n_6=some o)
  (hself:Za3 deep l_ v17 x_ v24 x_1 self o (Q .normal))
  (hK4:Za4 deep l_ v17 x_ v24 K4_ o (Q (.exit 4)))
  (hr:∀ s,Ends a11.results 0 (Z4o o) .ret s→Q .ret s) :
  Sv Tryz.prog (GG mL) 0 a11_c0 Q ⟨(ue [(34,(I v34)),(33,(I (x_1.length:Int))),(32,(.c (.ro false 7 (x_1.map e_TSTest)))),(24,(I v24)),(23,(I (x_.Steps.length:Int))),(22,(.c (.ro false 1 (x_.Steps.map (eSl 7 e_TSTest))))),(17,(I v17)),(16,(I (l_.length:Int))),(15,(.c (.ro false 2 (l_.map eRaw)))),(6,(I n_6)),(1,(I deep))]),e0,0⟩:=by
 unfold Z3o at h
 refine srg<|un1 (v:=(I (wi (v34+1)))) rfl<|un1 rfl<|dnil ?_
 exact hself n_6 (wi (v34+1)) h _ (wcn [] rfl (.cf rfl rfl (.cf rfl rfl (.cf rfl rfl (.cf rfl rfl (.cf rfl rfl (.cf rfl rfl (.cf rfl rfl (.cf rfl rfl (.cf rfl rfl (.cf rfl rfl (.cf rfl rfl .nil))))))))))) .nil)
abbrev Za6 (deep:Int) (l_:(List Raw)) (v17:Int) (x_:TSPath) (v24:Int) (x_1:(List TSTest)) (F_:Nat→Int→Int→Option (Int×Bool)) (o:(Int×Bool)):Nat→St→Prop:=fun k s=>∃(n_4:Int),∃(v34:Int),F_ k n_4 v34=some o∧s=⟨(ue [(34,(I v34)),(33,(I (x_1.length:Int))),(32,(.c (.ro false 7 (x_1.map e_TSTest)))),(24,(I v24)),(23,(I (x_.Steps.length:Int))),(22,(.c (.ro false 1 (x_.Steps.map (eSl 7 e_TSTest))))),(17,(I v17)),(16,(I (l_.length:Int))),(15,(.c (.ro false 2 (l_.map eRaw)))),(6,(I n_4)),(1,(I deep))]),e0,0⟩
noncomputable def Z2 (x_1:(List TSTest)) (deep:Int) (l_:(List Raw)) (v17:Int) (x_:TSPath) (v24:Int) (recf:(List Raw)→Int→Option (Int×Bool)) (K4_:Int→Option (Int×Bool)):Nat→Int→Int→Option (Int×Bool)
 | 0,_,_=>none
 | k+1,n_4,v34 =>
  if decide (v34<(x_1.length:Int)) then
   (at? x_1 v34).bind fun x_2 =>
   if decide ((x_2.Subs.length:Int)=0) then
    Z3o v34 deep l_ v17 x_ v24 x_1 (Z2 x_1 deep l_ v17 x_ v24 recf K4_ k) K4_ n_4
   else
    (recf x_2.Subs (wi (deep+1))).bind fun r_1 =>
    if (((!r_1.2)||(decide (3≤deep)))||(decide (40<(wi (n_4+r_1.1))))) then
     some ((wi (n_4+r_1.1)),false)
    else
     Z3o v34 deep l_ v17 x_ v24 x_1 (Z2 x_1 deep l_ v17 x_ v24 recf K4_ k) K4_ (wi (n_4+r_1.1))
  else
   K4_ n_4
theorem Ze7 {mL:Int}{Q:AExit→St→Prop}{x_1:(List TSTest)}{deep:Int}{l_:(List Raw)}{v17:Int}{x_:TSPath}{v24:Int}{recf:(List Raw)→Int→Option (Int×Bool)}{K4_:Int→Option (Int×Bool)}{k:Nat}{n_4:Int}{v34:Int}{o:(Int×Bool)}(h:Z2 x_1 deep l_ v17 x_ v24 recf K4_ k n_4 v34=some o)
  (hK4:Za4 deep l_ v17 x_ v24 K4_ o (Q (.exit 4)))
  (hr:∀ s,Ends a11.results 0 (Z4o o) .ret s→Q .ret s)
  (hrec:Z62 mL recf) :
  Sv Tryz.prog (GG mL) 0 (.loop a11_c1) Q ⟨(ue [(34,(I v34)),(33,(I (x_1.length:Int))),(32,(.c (.ro false 7 (x_1.map e_TSTest)))),(24,(I v24)),(23,(I (x_.Steps.length:Int))),(22,(.c (.ro false 1 (x_.Steps.map (eSl 7 e_TSTest))))),(17,(I v17)),(16,(I (l_.length:Int))),(15,(.c (.ro false 2 (l_.map eRaw)))),(6,(I n_4)),(1,(I deep))]),e0,0⟩:=by
 refine Sv.loop (I:=Za6 deep l_ v17 x_ v24 x_1 (Z2 x_1 deep l_ v17 x_ v24 recf K4_) o) (fun k s hI=>?_) ⟨n_4,v34,h,rfl⟩
 clear h
 clear v34 n_4
 obtain ⟨n_4,v34,h,rfl⟩:=hI
 cases k with
 | zero=>cases h
 | succ k =>
 rw [Z2] at h
 have hself:Za3 deep l_ v17 x_ v24 x_1 (Z2 x_1 deep l_ v17 x_ v24 recf K4_ k) o (rnd 0 (Za6 deep l_ v17 x_ v24 x_1 (Z2 x_1 deep l_ v17 x_ v24 recf K4_) o) k Q):=fun n_4 v34 h s hw=>⟨_,k,hw,Nat.lt_succ_self k,n_4,v34,h,rfl⟩
 refine ssr<|un1 (v:=(B (decide (v34<(x_1.length:Int))))) rfl<|dnil<|Sv.seq ?_
 refine Sv.cnd rfl h (fun h=>?_) fun h=>?_
 ·refine Sv.skip<|Sv.seq<|Sv.block<|ssr ?_
  obtain ⟨x_2,hx3,h⟩:=bnd h
  refine un1 (v:=(.c (.rop (e_TSTest x_2)))) (s_iaddr (e:=e_TSTest) (xs:=x_1) rfl rfl hx3)<|un1 (v:=(.agg (e_TSTest x_2))) rfl<|un<|a2v (v:=(.c (.ref 0 7 0 0))) (h' := upd _ 0 (some (.cells 7 [[cI 0,.str [],.val (.int .u8 0),.str [],cI 0,cI 0,.ro true 2 []]]))) (n' := 1) rfl rfl hcs<|un<|a2n (h' := upd _ 0 (some (.cells 7 [(e_TSTest x_2)]))) (n' := 1) rfl rfl hcs<|dnil<|Sv.seq<|ssr<|un1 (v:=(.c (.ref 0 7 0 6))) rfl<|un1 (v:=(.c (.ro false 2 (x_2.Subs.map eRaw)))) rfl<|un1 (v:=(I (x_2.Subs.length:Int))) (s_len (e:=eRaw) (xs:=x_2.Subs) rfl)<|un1 (v:=(B (decide ((x_2.Subs.length:Int)=0)))) rfl<|dnil ?_
  refine Sv.cnd rfl h (fun h=>?_) fun h=>?_
  ·refine Sv.exit ?_
   exact Sv.weak (wcn [] rfl (.cf rfl rfl (.cf rfl rfl (.cf rfl rfl (.cf rfl rfl (.cf rfl rfl (.cf rfl rfl (.cf rfl rfl (.cf rfl rfl (.cf rfl rfl (.cf rfl rfl (.cf rfl rfl .nil))))))))))) .nil) (Za5 h hself hK4 hr)
  ·refine Sv.skip<|ssr<|un1 (v:=(.c (.ref 0 7 0 6))) rfl<|un1 (v:=(.c (.ro false 2 (x_2.Subs.map eRaw)))) rfl<|un1 rfl<|un1 (v:=(I (wi (deep+1)))) rfl ?_
   obtain ⟨r_1,hr2,h⟩:=bnd h
   refine un<|ac_pure (hrec x_2.Subs (wi (deep+1)) _ hr2) rfl rfl rfl<|un1 rfl<|un1 (v:=(I r_1.1)) rfl<|un1 (v:=(B r_1.2)) rfl<|un1 rfl<|un1 rfl<|dnil<|ssr<|un1 rfl<|un1 rfl<|un1 (v:=(I (wi (n_4+r_1.1)))) rfl<|un1 rfl<|dnil<|ssr<|un1 rfl<|un1 (v:=(B (!r_1.2))) rfl<|un1 rfl ?_
   refine gjoin 3 (d:=58) (v:=(B ((!r_1.2)||(decide (3≤deep))))) (fun X hX=>?_) ?_
   ·refine split2 (fun hc5=>?_) (fun hc5=>?_)
    ·refine gs rfl rfl<|gs rfl rfl<|un1 (v:=(B true)) rfl<|dnil ?_
     exact hX _ (.putEq (by rw [hc5]; rfl) (.skp (.skp (.putEq (by rw [hc5]) (.refl _)) rfl) rfl))
    ·refine gt rfl<|a1 rfl<|gt rfl<|a1 (v:=(B (decide (3≤deep)))) rfl<|un1 (v:=(B (decide (3≤deep)))) rfl<|dnil ?_
     exact hX _ (.putEq (by rw [hc5]; rfl) (.skp (.skp (.putEq (by rw [hc5]) (.refl _)) rfl) rfl))
   refine un1 rfl ?_
   refine gjoin 3 (d:=62) (v:=(B (((!r_1.2)||(decide (3≤deep)))||(decide (40<(wi (n_4+r_1.1))))))) (fun X hX=>?_) ?_
   ·refine split2 (fun hc6=>?_) (fun hc6=>?_)
    ·refine gs rfl rfl<|gs rfl rfl<|un1 (v:=(B true)) rfl<|dnil ?_
     exact hX _ (.putEq (by rw [hc6]; rfl) (.skp (.skp (.putEq (by rw [hc6]) (.refl _)) rfl) rfl))
    ·refine gt rfl<|a1 rfl<|gt rfl<|a1 (v:=(B (decide (40<(wi (n_4+r_1.1)))))) rfl<|un1 (v:=(B (decide (40<(wi (n_4+r_1.1)))))) rfl<|dnil ?_
     exact hX _ (.putEq (by rw [hc6]; rfl) (.skp (.skp (.putEq (by rw [hc6]) (.refl _)) rfl) rfl))
   refine dnil ?_
   refine Sv.cnd rfl h (fun h=>?_) fun h=>?_
   ·refine ssr<|un1 rfl<|un1 rfl<|un1 rfl<|dnil<|Sv.ret ?_
    exact hr _ (rt0 h rfl rfl ⟨rfl,rfl,rfl⟩)
   ·refine Sv.skip ?_
    exact Sv.weak (wcn [] rfl (.cf rfl rfl (.cf rfl rfl (.cf rfl rfl (.cf rfl rfl (.cf rfl rfl (.cf rfl rfl (.cf rfl rfl (.cf rfl rfl (.cf rfl rfl (.cf rfl rfl (.cf rfl rfl .nil))))))))))) .nil) (Za5 h hself hK4 hr)
 ·refine Sv.exit ?_
  exact hK4 n_4 h _ (wcn [] rfl (.cf rfl rfl (.cf rfl rfl (.cf rfl rfl (.cf rfl rfl (.cf rfl rfl (.cf rfl rfl (.cf rfl rfl (.cf rfl rfl .nil)))))))) .nil)
abbrev Ze8 (deep:Int) (l_:(List Raw)) (v17:Int) (F_:Int→Option (Int×Bool)) (o:(Int×Bool)) (R_:St→Prop):Prop:=∀(n_3:Int),F_ n_3=some o→∀ s,Weak 0 s ⟨(ue [(17,(I v17)),(16,(I (l_.length:Int))),(15,(.c (.ro false 2 (l_.map eRaw)))),(6,(I n_3)),(1,(I deep))]),e0,0⟩→R_ s
abbrev Za7 (deep:Int) (l_:(List Raw)) (v17:Int) (x_:TSPath) (F_:Nat→Int→Int→Option (Int×Bool)) (o:(Int×Bool)):Nat→St→Prop:=fun k s=>∃(n_2:Int),∃(v24:Int),F_ k n_2 v24=some o∧s=⟨(ue [(24,(I v24)),(23,(I (x_.Steps.length:Int))),(22,(.c (.ro false 1 (x_.Steps.map (eSl 7 e_TSTest))))),(17,(I v17)),(16,(I (l_.length:Int))),(15,(.c (.ro false 2 (l_.map eRaw)))),(6,(I n_2)),(1,(I deep))]),e0,0⟩
abbrev Ze9 (deep:Int) (l_:(List Raw)) (v17:Int) (x_:TSPath) (F_:Int→Int→Option (Int×Bool)) (o:(Int×Bool)) (R_:St→Prop):Prop:=∀(n_2:Int) (v24:Int),F_ n_2 v24=some o→∀ s,Weak 0 s ⟨(ue [(24,(I v24)),(23,(I (x_.Steps.length:Int))),(22,(.c (.ro false 1 (x_.Steps.map (eSl 7 e_TSTest))))),(17,(I v17)),(16,(I (l_.length:Int))),(15,(.c (.ro false 2 (l_.map eRaw)))),(6,(I n_2)),(1,(I deep))]),e0,0⟩→R_ s
noncomputable def Z9 (x_:TSPath) (deep:Int) (l_:(List Raw)) (v17:Int) (recf:(List Raw)→Int→Option (Int×Bool)) (K2_:Int→Option (Int×Bool)):Nat→Int→Int→Option (Int×Bool)
 | 0,_,_=>none
 | k+1,n_2,v24 =>
  if decide (v24<(x_.Steps.length:Int)) then
   (at? x_.Steps v24).bind fun x_1 =>
   limF fun kk=>Z2 x_1 deep l_ v17 x_ v24 recf (fun (n_5:Int) => 
     (Z9 x_ deep l_ v17 recf K2_ k) n_5 (wi (v24+1))) kk (wi (n_2+(x_1.length:Int))) 0
  else
   K2_ n_2
theorem Zea {mL:Int}{Q:AExit→St→Prop}{x_:TSPath}{deep:Int}{l_:(List Raw)}{v17:Int}{recf:(List Raw)→Int→Option (Int×Bool)}{K2_:Int→Option (Int×Bool)}{k:Nat}{n_2:Int}{v24:Int}{o:(Int×Bool)}(h:Z9 x_ deep l_ v17 recf K2_ k n_2 v24=some o)
  (hK2:Ze8 deep l_ v17 K2_ o (Q (.exit 2)))
  (hr:∀ s,Ends a11.results 0 (Z4o o) .ret s→Q .ret s)
  (hrec:Z62 mL recf) :
  Sv Tryz.prog (GG mL) 0 (.loop a11_c2) Q ⟨(ue [(24,(I v24)),(23,(I (x_.Steps.length:Int))),(22,(.c (.ro false 1 (x_.Steps.map (eSl 7 e_TSTest))))),(17,(I v17)),(16,(I (l_.length:Int))),(15,(.c (.ro false 2 (l_.map eRaw)))),(6,(I n_2)),(1,(I deep))]),e0,0⟩:=by
 refine Sv.loop (I:=Za7 deep l_ v17 x_ (Z9 x_ deep l_ v17 recf K2_) o) (fun k s hI=>?_) ⟨n_2,v24,h,rfl⟩
 clear h
 clear v24 n_2
 obtain ⟨n_2,v24,h,rfl⟩:=hI
 cases k with
 | zero=>cases h
 | succ k =>
 rw [Z9] at h
 have hself:Ze9 deep l_ v17 x_ (Z9 x_ deep l_ v17 recf K2_ k) o (rnd 0 (Za7 deep l_ v17 x_ (Z9 x_ deep l_ v17 recf K2_) o) k Q):=fun n_2 v24 h s hw=>⟨_,k,hw,Nat.lt_succ_self k,n_2,v24,h,rfl⟩
 refine ssr<|un1 (v:=(B (decide (v24<(x_.Steps.length:Int))))) rfl<|dnil<|Sv.seq ?_
 refine Sv.cnd rfl h (fun h=>?_) fun h=>?_
 ·refine Sv.skip<|Sv.seq<|Sv.block<|ssr ?_
  obtain ⟨x_1,hx2,h⟩:=bnd h
  refine un1 (v:=(.c (.rop [.ro false 7 (x_1.map e_TSTest)]))) (s_iaddr (e:=(eSl 7 e_TSTest)) (xs:=x_.Steps) rfl rfl hx2)<|un1 (v:=(.c (.ro false 7 (x_1.map e_TSTest)))) rfl<|un1 rfl<|dnil<|ssr<|un1 rfl<|un1 rfl<|un1 (v:=(I (x_1.length:Int))) (s_len (e:=e_TSTest) (xs:=x_1) rfl)<|un1 (v:=(I (wi (n_2+(x_1.length:Int))))) rfl<|un1 rfl<|dnil<|ssr<|un1 rfl<|un1 (v:=(I (x_1.length:Int))) (s_len (e:=e_TSTest) (xs:=x_1) rfl)<|un1 rfl<|dnil<|Sv.block ?_
  obtain ⟨kk,h⟩:=limF_some h
  refine Sv.weak (wcn [] rfl (.cf rfl rfl (.cf rfl rfl (.cf rfl rfl (.cf rfl rfl (.cf rfl rfl (.cf rfl rfl (.cf rfl rfl (.cf rfl rfl (.cf rfl rfl (.cf rfl rfl (.cf rfl rfl .nil))))))))))) .nil) (Ze7 h ?_ hr hrec)
  ·intro n_5 h _ hw1
   refine Sv.weak hw1<|srg<|un1 (v:=(I (wi (v24+1)))) rfl<|un1 rfl<|dnil ?_
   exact hself n_5 (wi (v24+1)) h _ (wcn [] rfl (.cf rfl rfl (.cf rfl rfl (.cf rfl rfl (.cf rfl rfl (.cf rfl rfl (.cf rfl rfl (.cf rfl rfl (.cf rfl rfl .nil)))))))) .nil)
 ·refine Sv.exit ?_
  exact hK2 n_2 h _ (wcn [] rfl (.cf rfl rfl (.cf rfl rfl (.cf rfl rfl (.cf rfl rfl (.cf rfl rfl .nil))))) .nil)
abbrev Zeb (F_:Int→Option (Int×Bool)) (o:(Int×Bool)) (R_:St→Prop):Prop:=∀(n_1:Int),F_ n_1=some o→∀ s,Weak 0 s ⟨(upd e0 6 (some (I n_1))),e0,0⟩→R_ s
abbrev Za8 (deep:Int) (l_:(List Raw)) (F_:Nat→Int→Int→Option (Int×Bool)) (o:(Int×Bool)):Nat→St→Prop:=fun k s=>∃(n_:Int),∃(v17:Int),F_ k n_ v17=some o∧s=⟨(ue [(17,(I v17)),(16,(I (l_.length:Int))),(15,(.c (.ro false 2 (l_.map eRaw)))),(6,(I n_)),(1,(I deep))]),e0,0⟩
abbrev Zec (deep:Int) (l_:(List Raw)) (F_:Int→Int→Option (Int×Bool)) (o:(Int×Bool)) (R_:St→Prop):Prop:=∀(n_:Int) (v17:Int),F_ n_ v17=some o→∀ s,Weak 0 s ⟨(ue [(17,(I v17)),(16,(I (l_.length:Int))),(15,(.c (.ro false 2 (l_.map eRaw)))),(6,(I n_)),(1,(I deep))]),e0,0⟩→R_ s
noncomputable def Za (l_:(List Raw)) (deep:Int) (recf:(List Raw)→Int→Option (Int×Bool)) (K0_:Int→Option (Int×Bool)):Nat→Int→Int→Option (Int×Bool)
 | 0,_,_=>none
 | k+1,n_,v17 =>
  if decide (v17<(l_.length:Int)) then
   (at? l_ v17).bind fun r_ =>
   (Z3 r_.c).bind fun x_ =>
   limF fun kk1=>Z9 x_ deep l_ v17 recf (fun (n_3:Int) => 
     (Za l_ deep recf K0_ k) n_3 (wi (v17+1))) kk1 n_ 0
  else
   K0_ n_
theorem Zed {mL:Int}{Q:AExit→St→Prop}{l_:(List Raw)}{deep:Int}{recf:(List Raw)→Int→Option (Int×Bool)}{K0_:Int→Option (Int×Bool)}{k:Nat}{n_:Int}{v17:Int}{o:(Int×Bool)}(h:Za l_ deep recf K0_ k n_ v17=some o)
  (hK0:Zeb K0_ o (Q (.exit 0)))
  (hr:∀ s,Ends a11.results 0 (Z4o o) .ret s→Q .ret s)
  (hrec:Z62 mL recf) :
  Sv Tryz.prog (GG mL) 0 (.loop a11_c3) Q ⟨(ue [(17,(I v17)),(16,(I (l_.length:Int))),(15,(.c (.ro false 2 (l_.map eRaw)))),(6,(I n_)),(1,(I deep))]),e0,0⟩:=by
 refine Sv.loop (I:=Za8 deep l_ (Za l_ deep recf K0_) o) (fun k s hI=>?_) ⟨n_,v17,h,rfl⟩
 clear h
 clear v17 n_
 obtain ⟨n_,v17,h,rfl⟩:=hI
 cases k with
 | zero=>cases h
 | succ k =>
 rw [Za] at h
 have hself:Zec deep l_ (Za l_ deep recf K0_ k) o (rnd 0 (Za8 deep l_ (Za l_ deep recf K0_) o) k Q):=fun n_ v17 h s hw=>⟨_,k,hw,Nat.lt_succ_self k,n_,v17,h,rfl⟩
 refine ssr<|un1 (v:=(B (decide (v17<(l_.length:Int))))) rfl<|dnil<|Sv.seq ?_
 refine Sv.cnd rfl h (fun h=>?_) fun h=>?_
 ·refine Sv.skip<|Sv.seq<|Sv.block<|ssr ?_
  obtain ⟨r_,hr1,h⟩:=bnd h
  obtain ⟨x_,hd,h⟩:=bnd h
  have hx1:at? l_ v17=some (⟨e_TSPath x_,rfl⟩:Raw):=by rw [hr1,raw_eq rfl (Z18 hd)]
  refine un1 (v:=(.c (.rop (e_TSPath x_)))) (s_iaddr (e:=eRaw) (xs:=l_) rfl rfl hx1)<|un1 (v:=(.agg (e_TSPath x_))) rfl<|un<|a2v (v:=(.c (.ref 0 2 0 0))) (h' := upd _ 0 (some (.cells 2 [[.ro true 1 [],.ro true 1 []]]))) (n' := 1) rfl rfl hcs<|un<|a2n (h' := upd _ 0 (some (.cells 2 [(e_TSPath x_)]))) (n' := 1) rfl rfl hcs<|dnil<|ssr<|un1 (v:=(.c (.ref 0 2 0 0))) rfl<|un1 (v:=(.c (.ro false 1 (x_.Steps.map (eSl 7 e_TSTest))))) rfl<|un1 (v:=(I (x_.Steps.length:Int))) (s_len (e:=(eSl 7 e_TSTest)) (xs:=x_.Steps) rfl)<|un1 rfl<|dnil<|Sv.block ?_
  obtain ⟨kk1,h⟩:=limF_some h
  refine Sv.weak (wcn [] rfl (.cf rfl rfl (.cf rfl rfl (.cf rfl rfl (.cf rfl rfl (.cf rfl rfl (.cf rfl rfl (.cf rfl rfl (.cf rfl rfl .nil)))))))) .nil) (Zea h ?_ hr hrec)
  ·intro n_3 h _ hw2
   refine Sv.weak hw2<|srg<|un1 (v:=(I (wi (v17+1)))) rfl<|un1 rfl<|dnil ?_
   exact hself n_3 (wi (v17+1)) h _ (wcn [] rfl (.cf rfl rfl (.cf rfl rfl (.cf rfl rfl (.cf rfl rfl (.cf rfl rfl .nil))))) .nil)
 ·refine Sv.exit ?_
  exact hK0 n_ h _ (wcn [] rfl (.cf rfl rfl .nil) .nil)
noncomputable def Zk:Nat→(List Raw)→Int→Option (Int×Bool)
 | 0,_,_=>none
 | k+1,l_,deep =>
  limF fun kk2=>Za l_ deep (Zk k) (fun (n_1:Int) => 
    some (n_1,decide (n_1≤40))) kk2 0 0
noncomputable def Z63 (l_:(List Raw)) (deep:Int):Option (Int×Bool) :=
 limF fun kr=>Zk kr l_ deep
theorem Zee {mL:Int}(k:Nat):Z62 mL (Zk k):=by
 induction k with
 | zero=>intro l_ deep r h; cases h
 | succ k hrec =>
 intro l_ deep r h
 refine acalls_of_sv hmix c11 (R:=Z4o r) ?_
 rw [Zk] at h
 refine ssr<|un1 rfl<|un1 rfl<|dnil<|ssr<|un1 rfl<|dnil<|Sv.seq<|ssr<|un1 rfl<|un1 (v:=(I (l_.length:Int))) (s_len (e:=eRaw) (xs:=l_) rfl)<|un1 rfl<|dnil<|Sv.block ?_
 obtain ⟨kk2,h⟩:=limF_some h
 refine Sv.weak (wcn [] rfl (.cf rfl rfl (.cf rfl rfl (.cf rfl rfl (.cf rfl rfl (.cf rfl rfl .nil))))) .nil) (Zed h ?_ (fun s hs=>hs) hrec)
 ·intro n_1 h _ hw3
  refine Sv.weak hw3<|ssr<|un1 rfl<|un1 rfl<|un1 (v:=(B (decide (n_1≤40)))) rfl<|un1 rfl<|un1 rfl<|dnil<|Sv.ret ?_
  exact rt0 h rfl rfl ⟨rfl,rfl,rfl⟩
theorem Zef {mL:Int}{l_:(List Raw)}{deep:Int}{r:(Int×Bool)}(h:Z63 l_ deep=some r):CPure Tryz.prog (GG mL) 11 [(.c (.ro false 2 (l_.map eRaw))),(I deep)] (.tup [(I r.1),(B r.2)]):=by
 unfold Z63 at h
 obtain ⟨k,h⟩:=limF_some h
 exact Zee k l_ deep  r h
noncomputable abbrev Z2r (s_:Tx) (c_:Int):Option Int:=indexByte? s_ c_
theorem Za9 {mL:Int}{s_:Tx}{c_:Int}{r:Int}(h:Z2r s_ c_=some r):CPure Tryz.prog (GG mL) 21 [(S s_),(.c (.val (.int .u8 c_)))] (I r):=indexByte_ok Tryz.lays137 h
def a32:AFunc:=⟨1,[(.tmp 2)],(sr [(oP 1 (.box (.tmp 0))),(oP 2 (.mov kF))]
 (sr [(oP 3 (.faddr 0 (.tmp 1))),(oP 4 (.load false 1 (.tmp 3))),(oP 5 (.bin .eql (.tmp 4) (kI 8))),(mV 6 5),⟨(some 7),(.faddr 0 (.tmp 1)),(some (6,false))⟩,⟨(some 8),(.load false 1 (.tmp 7)),(some (6,false))⟩,⟨(some 9),(.bin .eql (.tmp 8) (kI 9)),(some (6,false))⟩,(oP 10 (.pick (.tmp 6) kT (.tmp 9))),(mV 2 10)]
 .ret))⟩
theorem c32:compFunc Tryz.prog 32=some a32:=by kernel_rfl
def Zeg (r:Bool):AV→Heap→Nat→Prop:=fun v h' n' => v=(B r)∧(h' = e0)∧n' = 0
def Z1i (t_:TSTest):Bool :=
 ((decide (t_.Kind=8))||(decide (t_.Kind=9)))
theorem Zeh {mL:Int}(t_:TSTest):CPure Tryz.prog (GG mL) 32 [(.agg (e_TSTest t_))] (B (Z1i t_)):=by
 generalize h:Z1i t_=o
 refine acalls_of_sv hmix c32 (R:=Zeg o) ?_
 unfold Z1i at h
 refine ssr<|un<|a2v (v:=(.c (.ref 0 7 0 0))) (h' := upd _ 0 (some (.cells 7 [(e_TSTest t_)]))) (n' := 1) rfl rfl hcs<|un1 rfl<|dnil<|ssr<|un1 (v:=(.c (.ref 0 7 0 0))) rfl<|un1 (v:=(I t_.Kind)) rfl<|un1 (v:=(B (decide (t_.Kind=8)))) rfl<|un1 rfl ?_
 refine gjoin 4 (d:=10) (v:=(B ((decide (t_.Kind=8))||(decide (t_.Kind=9))))) (fun X hX=>?_) ?_
 ·refine split2 (fun hc1=>?_) (fun hc1=>?_)
  ·refine gs rfl rfl<|gs rfl rfl<|gs rfl rfl<|un1 (v:=(B true)) rfl<|dnil ?_
   exact hX _ (.putEq (by rw [hc1]; rfl) (.skp (.skp (.skp (.putEq (by rw [hc1]) (.refl _)) rfl) rfl) rfl))
  ·refine gt rfl<|a1 (v:=(.c (.ref 0 7 0 0))) rfl<|gt rfl<|a1 (v:=(I t_.Kind)) rfl<|gt rfl<|a1 (v:=(B (decide (t_.Kind=9)))) rfl<|un1 (v:=(B (decide (t_.Kind=9)))) rfl<|dnil ?_
   exact hX _ (.putEq (by rw [hc1]; rfl) (.skp (.skp (.skp (.putEq (by rw [hc1]) (.refl _)) rfl) rfl) rfl))
 refine un1 rfl<|dnil<|Sv.ret ?_
 subst h
 exact ⟨_,.refl _,_,rfl,⟨upd e0 0 (some (B ((decide (t_.Kind=8))||(decide (t_.Kind=9))))),e0,0⟩,(B ((decide (t_.Kind=8))||(decide (t_.Kind=9)))),weak_canon [] rfl ndl nll nlz (.cf rfl rfl .nil) .nil,rfl,rfl,rfl,rfl⟩
def a33:AFunc:=⟨1,[(.tmp 2)],(sr [(oP 1 (.box (.tmp 0))),(oP 2 (.mov kF))]
 (sr [(oP 3 (.faddr 0 (.tmp 1))),(oP 4 (.load false 1 (.tmp 3))),(oP 5 (.bin .eql (.tmp 4) (kI 10))),(mV 6 5),⟨(some 7),(.faddr 0 (.tmp 1)),(some (6,false))⟩,⟨(some 8),(.load false 1 (.tmp 7)),(some (6,false))⟩,⟨(some 9),(.bin .eql (.tmp 8) (kI 11)),(some (6,false))⟩,(oP 10 (.pick (.tmp 6) kT (.tmp 9))),(mV 2 10)]
 .ret))⟩
theorem c33:compFunc Tryz.prog 33=some a33:=by kernel_rfl
def Zei (r:Bool):AV→Heap→Nat→Prop:=fun v h' n' => v=(B r)∧(h' = e0)∧n' = 0
def Z3p (t_:TSTest):Bool :=
 ((decide (t_.Kind=10))||(decide (t_.Kind=11)))
theorem Zej {mL:Int}(t_:TSTest):CPure Tryz.prog (GG mL) 33 [(.agg (e_TSTest t_))] (B (Z3p t_)):=by
 generalize h:Z3p t_=o
 refine acalls_of_sv hmix c33 (R:=Zei o) ?_
 unfold Z3p at h
 refine ssr<|un<|a2v (v:=(.c (.ref 0 7 0 0))) (h' := upd _ 0 (some (.cells 7 [(e_TSTest t_)]))) (n' := 1) rfl rfl hcs<|un1 rfl<|dnil<|ssr<|un1 (v:=(.c (.ref 0 7 0 0))) rfl<|un1 (v:=(I t_.Kind)) rfl<|un1 (v:=(B (decide (t_.Kind=10)))) rfl<|un1 rfl ?_
 refine gjoin 4 (d:=10) (v:=(B ((decide (t_.Kind=10))||(decide (t_.Kind=11))))) (fun X hX=>?_) ?_
 ·refine split2 (fun hc1=>?_) (fun hc1=>?_)
  ·refine gs rfl rfl<|gs rfl rfl<|gs rfl rfl<|un1 (v:=(B true)) rfl<|dnil ?_
   exact hX _ (.putEq (by rw [hc1]; rfl) (.skp (.skp (.skp (.putEq (by rw [hc1]) (.refl _)) rfl) rfl) rfl))
  ·refine gt rfl<|a1 (v:=(.c (.ref 0 7 0 0))) rfl<|gt rfl<|a1 (v:=(I t_.Kind)) rfl<|gt rfl<|a1 (v:=(B (decide (t_.Kind=11)))) rfl<|un1 (v:=(B (decide (t_.Kind=11)))) rfl<|dnil ?_
   exact hX _ (.putEq (by rw [hc1]; rfl) (.skp (.skp (.skp (.putEq (by rw [hc1]) (.refl _)) rfl) rfl) rfl))
 refine un1 rfl<|dnil<|Sv.ret ?_
 subst h
 exact ⟨_,.refl _,_,rfl,⟨upd e0 0 (some (B ((decide (t_.Kind=10))||(decide (t_.Kind=11))))),e0,0⟩,(B ((decide (t_.Kind=10))||(decide (t_.Kind=11)))),weak_canon [] rfl ndl nll nlz (.cf rfl rfl .nil) .nil,rfl,rfl,rfl,rfl⟩
def Z4p (r:Bool):AV→Heap→Nat→Prop:=fun v h' n' => v=(B r)∧(h' = e0)∧n' = 0
def Z29 (mL:Int) (recf:(List Raw)→Option Bool):Prop:=∀(l_:(List Raw)) (r:Bool),recf l_=some r→CPure Tryz.prog (GG mL) 12 [(.c (.ro false 2 (l_.map eRaw)))] (B r)
def a20_c0:ACode:=(.cond (.tmp 46) (sr [(oP 4 (.mov kF))]
 .ret) .skip)
def a20_c1:ACode:=(.cond (.tmp 62) (sr [(oP 4 (.mov kF))]
 .ret) .skip)
def a20_c2:ACode:=(.cond (.tmp 86) (sr [(oP 4 (.mov kF))]
 .ret) .skip)
def a20_c3:ACode:=(.seq (sr [(oP 87 (.load true 7 (.tmp 2))),(oP 88 (.call 32 [(.tmp 87)])),(oP 89 (.un .not (.tmp 88))),(mV 90 89),⟨(some 91),(.faddr 4 (.tmp 2)),(some (90,true))⟩,⟨(some 92),(.load false 1 (.tmp 91)),(some (90,true))⟩,⟨(some 93),(.bin .neq (.tmp 92) (kI 0)),(some (90,true))⟩,⟨(some 94),(.mov (.tmp 93)),(some (90,true))⟩,⟨(some 95),(.faddr 5 (.tmp 2)),(some (94,false))⟩,⟨(some 96),(.load false 1 (.tmp 95)),(some (94,false))⟩,⟨(some 97),(.bin .neq (.tmp 96) (kI 0)),(some (94,false))⟩,⟨(some 98),(.pick (.tmp 94) kT (.tmp 97)),(some (90,true))⟩,(oP 99 (.pick (.tmp 90) (.tmp 98) kF)),(mV 100 99),⟨(some 101),(.faddr 4 (.tmp 2)),(some (100,false))⟩,⟨(some 102),(.load false 1 (.tmp 101)),(some (100,false))⟩,⟨(some 103),(.faddr 5 (.tmp 2)),(some (100,false))⟩,⟨(some 104),(.load false 1 (.tmp 103)),(some (100,false))⟩,⟨(some 105),(.mm false [(.tmp 102),(.tmp 104)]),(some (100,false))⟩,⟨(some 106),(.bin .lss (.tmp 105) (.const (.c (.val (.int .i64 (-1000)))))),(some (100,false))⟩,(oP 107 (.pick (.tmp 100) kT (.tmp 106))),(mV 108 107),⟨(some 109),(.faddr 4 (.tmp 2)),(some (108,false))⟩,⟨(some 110),(.load false 1 (.tmp 109)),(some (108,false))⟩,⟨(some 111),(.faddr 5 (.tmp 2)),(some (108,false))⟩,⟨(some 112),(.load false 1 (.tmp 111)),(some (108,false))⟩,⟨(some 113),(.mm true [(.tmp 110),(.tmp 112)]),(some (108,false))⟩,⟨(some 114),(.bin .gtr (.tmp 113) (kI 1000)),(some (108,false))⟩,(oP 115 (.pick (.tmp 108) kT (.tmp 114)))]
 (.cond (.tmp 115) (sr [(oP 4 (.mov kF))]
 .ret) .skip))
 (.seq (sr [(oP 116 (.load true 7 (.tmp 2))),(oP 117 (.call 33 [(.tmp 116)]))]
 (.cond (.tmp 117) (sr [(oP 118 (.faddr 6 (.tmp 2))),(oP 119 (.load false 1 (.tmp 118))),(oP 120 (.call 12 [(.tmp 119)])),(mV 4 120)]
 .ret) .skip))
 (sr [(oP 121 (.faddr 6 (.tmp 2))),(oP 122 (.load false 1 (.tmp 121))),(oP 123 (.len (.tmp 122))),(oP 124 (.bin .eql (.tmp 123) (kI 0))),(mV 4 124)]
 .ret)))
def a20_c4:ACode:=(.seq (sr [(oP 63 (.faddr 2 (.tmp 2))),(oP 64 (.load false 1 (.tmp 63))),(oP 65 (.bin .neq (.tmp 64) (.const (.c (.val (.int .u8 0)))))),(mV 66 65),⟨(some 67),(.faddr 0 (.tmp 2)),(some (66,true))⟩,⟨(some 68),(.load false 1 (.tmp 67)),(some (66,true))⟩,⟨(some 69),(.bin .neq (.tmp 68) (kI 5)),(some (66,true))⟩,⟨(some 70),(.mov (.tmp 69)),(some (66,true))⟩,⟨(some 71),(.faddr 2 (.tmp 2)),(some (70,false))⟩,⟨(some 72),(.load false 1 (.tmp 71)),(some (70,false))⟩,⟨(some 73),(.call 21 [(.const (.c (.str [61,126,124,94,36,42]))),(.tmp 72)]),(some (70,false))⟩,⟨(some 74),(.bin .lss (.tmp 73) (kI 0)),(some (70,false))⟩,⟨(some 75),(.pick (.tmp 70) kT (.tmp 74)),(some (66,true))⟩,(oP 76 (.pick (.tmp 66) (.tmp 75) kF)),(mV 77 76),⟨(some 78),(.faddr 2 (.tmp 2)),(some (77,false))⟩,⟨(some 79),(.load false 1 (.tmp 78)),(some (77,false))⟩,⟨(some 80),(.bin .eql (.tmp 79) (.const (.c (.val (.int .u8 0))))),(some (77,false))⟩,⟨(some 81),(.mov (.tmp 80)),(some (77,false))⟩,⟨(some 82),(.faddr 3 (.tmp 2)),(some (81,true))⟩,⟨(some 83),(.load false 1 (.tmp 82)),(some (81,true))⟩,⟨(some 84),(.bin .neq (.tmp 83) (.const (.c (.str [])))),(some (81,true))⟩,⟨(some 85),(.pick (.tmp 81) (.tmp 84) kF),(some (77,false))⟩,(oP 86 (.pick (.tmp 77) kT (.tmp 85)))]
 a20_c2)
 a20_c3)
def a20_c5:ACode:=(.seq (.seq (.drawn (.fin [((oP 47 (.faddr 0 (.tmp 2))),(0,0)),((oP 48 (.load false 1 (.tmp 47))),(0,1)),((oP 49 (.bin .eql (.tmp 48) (kI 2))),(0,2)),((mV 50 49),(0,3)),(⟨(some 51),(.faddr 0 (.tmp 2)),(some (50,false))⟩,(0,4)),(⟨(some 52),(.load false 1 (.tmp 51)),(some (50,false))⟩,(0,5)),(⟨(some 53),(.bin .eql (.tmp 52) (kI 5)),(some (50,false))⟩,(0,6)),((oP 54 (.pick (.tmp 50) kT (.tmp 53))),(0,7)),((mV 55 54),(0,8)),(⟨(some 56),(.faddr 1 (.tmp 2)),(some (55,true))⟩,(0,9)),(⟨(some 57),(.load false 1 (.tmp 56)),(some (55,true))⟩,(0,10)),(⟨(some 58),(.faddr 1 (.tmp 2)),(some (55,true))⟩,(0,11)),(⟨(some 59),(.load false 1 (.tmp 58)),(some (55,true))⟩,(0,12)),(⟨(some 60),(.call 31 [(.tmp 59)]),(some (55,true))⟩,(1,13)),(⟨(some 61),(.bin .neq (.tmp 57) (.tmp 60)),(some (55,true))⟩,(0,14)),((oP 62 (.pick (.tmp 55) (.tmp 61) kF)),(0,15))]))
 a20_c1)
 a20_c4)
def a20:AFunc:=⟨2,[(.tmp 4)],(sr [(oP 2 (.box (.tmp 0))),(oP 4 (.mov kF))]
 (sr [(oP 6 (.faddr 0 (.tmp 2))),(oP 7 (.load false 1 (.tmp 6))),(oP 8 (.bin .geq (.tmp 7) (kI 2))),(mV 9 8),⟨(some 10),(.faddr 0 (.tmp 2)),(some (9,true))⟩,⟨(some 11),(.load false 1 (.tmp 10)),(some (9,true))⟩,⟨(some 12),(.bin .leq (.tmp 11) (kI 5)),(some (9,true))⟩,(oP 13 (.pick (.tmp 9) (.tmp 12) kF)),(mV 5 13)]
 (.seq (sr [(oP 14 (.faddr 0 (.tmp 2))),(oP 15 (.load false 1 (.tmp 14))),(oP 16 (.bin .lss (.tmp 15) (kI 1))),(mV 17 16),⟨(some 18),(.faddr 0 (.tmp 2)),(some (17,false))⟩,⟨(some 19),(.load false 1 (.tmp 18)),(some (17,false))⟩,⟨(some 20),(.bin .gtr (.tmp 19) (kI 11)),(some (17,false))⟩,(oP 21 (.pick (.tmp 17) kT (.tmp 20))),(mV 22 21),⟨(some 23),(.faddr 0 (.tmp 2)),(some (22,false))⟩,⟨(some 24),(.load false 1 (.tmp 23)),(some (22,false))⟩,⟨(some 25),(.bin .leq (.tmp 24) (kI 2)),(some (22,false))⟩,⟨(some 26),(.mov (.tmp 25)),(some (22,false))⟩,⟨(some 27),(.mov (.tmp 1)),(some (26,true))⟩,⟨(some 28),(.bin .gtr (.tmp 27) (kI 0)),(some (26,true))⟩,⟨(some 29),(.pick (.tmp 26) (.tmp 28) kF),(some (22,false))⟩,(oP 30 (.pick (.tmp 22) kT (.tmp 29))),(mV 31 30),⟨(some 32),(.mov (.tmp 5)),(some (31,false))⟩,⟨(some 33),(.faddr 1 (.tmp 2)),(some (31,false))⟩,⟨(some 34),(.load false 1 (.tmp 33)),(some (31,false))⟩,⟨(some 35),(.bin .neq (.tmp 34) (.const (.c (.str [])))),(some (31,false))⟩,⟨(some 36),(.eqs true false [.b] (.tmp 32) (.tmp 35)),(some (31,false))⟩,(oP 37 (.pick (.tmp 31) kT (.tmp 36))),(mV 38 37),⟨(some 39),(.mov (.tmp 5)),(some (38,false))⟩,⟨(some 40),(.mov (.tmp 39)),(some (38,false))⟩,⟨(some 41),(.faddr 1 (.tmp 2)),(some (40,true))⟩,⟨(some 42),(.load false 1 (.tmp 41)),(some (40,true))⟩,⟨(some 43),(.call 30 [(.tmp 42)]),(some (40,true))⟩,⟨(some 44),(.un .not (.tmp 43)),(some (40,true))⟩,⟨(some 45),(.pick (.tmp 40) (.tmp 44) kF),(some (38,false))⟩,(oP 46 (.pick (.tmp 38) kT (.tmp 45)))]
 a20_c0)
 a20_c5)))⟩
theorem c20:compFunc Tryz.prog 20=some a20:=by kernel_rfl
def Z2s (r:Bool):AV→Heap→Nat→Prop:=fun v h' n' => v=(B r)∧(h' = e0)∧n' = 0
abbrev Zek (mL:Int) (o:Bool):AExit→St→Prop:=AThen (Sv Tryz.prog (GG mL) 0 a20_c3 (Ends a20.results 0 (Z2s o))) (Ends a20.results 0 (Z2s o))
noncomputable def Z1j (t_:TSTest) (rec_selector_paths:(List Raw)→Option Bool) (v86:Bool):Option Bool :=
 if v86 then
  some false
 else
  if ((((!(Z1i t_))&&((!decide (t_.A=0))||(!decide (t_.B=0))))||(decide ((mn t_.A t_.B)<(-1000))))||(decide (1000<(mx t_.A t_.B)))) then
   some false
  else
   if (Z3p t_) then
    (rec_selector_paths t_.Subs).bind fun r_ =>
    some r_
   else
    some (decide ((t_.Subs.length:Int)=0))
theorem Z7j {mL:Int}{t_:TSTest}{rec_selector_paths:(List Raw)→Option Bool}{v86:Bool}{o:Bool}(h:Z1j t_ rec_selector_paths v86=some o)
  (hrec_selector_paths:Z29 mL rec_selector_paths) :
  Sv Tryz.prog (GG mL) 0 a20_c2 (Zek mL o) ⟨(ue [(86,(B v86)),(2,(.c (.ref 0 7 0 0)))]),(upd e0 0 (some (.cells 7 [(e_TSTest t_)]))),1⟩:=by
 unfold Z1j at h
 refine Sv.cnd rfl h (fun h=>?_) fun h=>?_
 ·refine ssr<|un1 rfl<|dnil<|Sv.ret ?_
  exact rt0 h rfl rfl ⟨rfl,rfl,rfl⟩
 ·refine Sv.skip<|Sv.seq<|ssr<|un1 (v:=(.agg (e_TSTest t_))) rfl<|un<|ac_pure (Zeh (mL:=mL) t_) rfl rfl rfl<|un1 (v:=(B (!(Z1i t_)))) rfl<|un1 rfl ?_
  refine gjoin 9 (d:=99) (v:=(B ((!(Z1i t_))&&((!decide (t_.A=0))||(!decide (t_.B=0)))))) (fun X hX=>?_) ?_
  ·refine split2 (fun hc6=>?_) (fun hc6=>?_)
   ·refine gt rfl<|a1 (v:=(.c (.ref 0 7 0 4))) rfl<|gt rfl<|a1 (v:=(I t_.A)) rfl<|gt rfl<|a1 (v:=(B (!decide (t_.A=0)))) rfl<|gt rfl<|a1 rfl ?_
    refine gjoin 4 (d:=98) (v:=(B ((!decide (t_.A=0))||(!decide (t_.B=0))))) (fun X hX=>?_) ?_
    ·refine split2 (fun hc5=>?_) (fun hc5=>?_)
     ·refine gs rfl rfl<|gs rfl rfl<|gs rfl rfl<|gt rfl<|a1 (v:=(B true)) rfl<|dnil ?_
      exact hX _ (.putEq (by rw [hc5]; rfl) (.skp (.skp (.skp (.putEq (by rw [hc5]) (.refl _)) rfl) rfl) rfl))
     ·refine gt rfl<|a1 (v:=(.c (.ref 0 7 0 5))) rfl<|gt rfl<|a1 (v:=(I t_.B)) rfl<|gt rfl<|a1 (v:=(B (!decide (t_.B=0)))) rfl<|gt rfl<|a1 (v:=(B (!decide (t_.B=0)))) rfl<|dnil ?_
      exact hX _ (.putEq (by rw [hc5]; rfl) (.skp (.skp (.skp (.putEq (by rw [hc5]) (.refl _)) rfl) rfl) rfl))
    refine un1 (v:=(B ((!decide (t_.A=0))||(!decide (t_.B=0))))) rfl<|dnil ?_
    exact hX _ (.putEq (by rw [hc6]; rfl) (by repeat (first | exact .putEq (by rw [hc6]) (.refl _) | refine .skp ?_ rfl)))
   ·repeat (first | refine gu rfl ?_ | refine gs rfl rfl ?_)
    refine un1 (v:=(B false)) rfl<|dnil ?_
    exact hX _ (.putEq (by rw [hc6]; rfl) (by repeat (first | exact .putEq (by rw [hc6]) (.refl _) | refine .skp ?_ rfl)))
  refine un1 rfl ?_
  refine gjoin 7 (d:=107) (v:=(B (((!(Z1i t_))&&((!decide (t_.A=0))||(!decide (t_.B=0))))||(decide ((mn t_.A t_.B)<(-1000)))))) (fun X hX=>?_) ?_
  ·refine split2 (fun hc7=>?_) (fun hc7=>?_)
   ·repeat (first | refine gu rfl ?_ | refine gs rfl rfl ?_)
    refine un1 (v:=(B true)) rfl<|dnil ?_
    exact hX _ (.putEq (by rw [hc7]; rfl) (by repeat (first | exact .putEq (by rw [hc7]) (.refl _) | refine .skp ?_ rfl)))
   ·refine gt rfl<|a1 (v:=(.c (.ref 0 7 0 4))) rfl<|gt rfl<|a1 (v:=(I t_.A)) rfl<|gt rfl<|a1 (v:=(.c (.ref 0 7 0 5))) rfl<|gt rfl<|a1 (v:=(I t_.B)) rfl<|gt rfl<|a1 (v:=(I (mn t_.A t_.B))) (s_mn rfl rfl)<|gt rfl<|a1 (v:=(B (decide ((mn t_.A t_.B)<(-1000))))) rfl<|un1 (v:=(B (decide ((mn t_.A t_.B)<(-1000))))) rfl<|dnil ?_
    exact hX _ (.putEq (by rw [hc7]; rfl) (by repeat (first | exact .putEq (by rw [hc7]) (.refl _) | refine .skp ?_ rfl)))
  refine un1 rfl ?_
  refine gjoin 7 (d:=115) (v:=(B ((((!(Z1i t_))&&((!decide (t_.A=0))||(!decide (t_.B=0))))||(decide ((mn t_.A t_.B)<(-1000))))||(decide (1000<(mx t_.A t_.B)))))) (fun X hX=>?_) ?_
  ·refine split2 (fun hc8=>?_) (fun hc8=>?_)
   ·repeat (first | refine gu rfl ?_ | refine gs rfl rfl ?_)
    refine un1 (v:=(B true)) rfl<|dnil ?_
    exact hX _ (.putEq (by rw [hc8]; rfl) (by repeat (first | exact .putEq (by rw [hc8]) (.refl _) | refine .skp ?_ rfl)))
   ·refine gt rfl<|a1 (v:=(.c (.ref 0 7 0 4))) rfl<|gt rfl<|a1 (v:=(I t_.A)) rfl<|gt rfl<|a1 (v:=(.c (.ref 0 7 0 5))) rfl<|gt rfl<|a1 (v:=(I t_.B)) rfl<|gt rfl<|a1 (v:=(I (mx t_.A t_.B))) (s_mx rfl rfl)<|gt rfl<|a1 (v:=(B (decide (1000<(mx t_.A t_.B))))) rfl<|un1 (v:=(B (decide (1000<(mx t_.A t_.B))))) rfl<|dnil ?_
    exact hX _ (.putEq (by rw [hc8]; rfl) (by repeat (first | exact .putEq (by rw [hc8]) (.refl _) | refine .skp ?_ rfl)))
  refine dnil ?_
  refine Sv.cnd rfl h (fun h=>?_) fun h=>?_
  ·refine ssr<|un1 rfl<|dnil<|Sv.ret ?_
   exact rt0 h rfl rfl ⟨rfl,rfl,rfl⟩
  ·refine Sv.skip<|Sv.seq<|ssr<|un1 (v:=(.agg (e_TSTest t_))) rfl<|un<|ac_pure (Zej (mL:=mL) t_) rfl rfl rfl<|dnil ?_
   refine Sv.cnd rfl h (fun h=>?_) fun h=>?_
   ·refine ssr<|un1 (v:=(.c (.ref 0 7 0 6))) rfl<|un1 (v:=(.c (.ro false 2 (t_.Subs.map eRaw)))) rfl ?_
    obtain ⟨r_,hr1,h⟩:=bnd h
    refine un<|ac_pure (hrec_selector_paths t_.Subs _ hr1) rfl rfl rfl<|un1 rfl<|dnil<|Sv.ret ?_
    exact rt0 h rfl rfl ⟨rfl,rfl,rfl⟩
   ·refine Sv.skip<|ssr<|un1 (v:=(.c (.ref 0 7 0 6))) rfl<|un1 (v:=(.c (.ro false 2 (t_.Subs.map eRaw)))) rfl<|un1 (v:=(I (t_.Subs.length:Int))) (s_len (e:=eRaw) (xs:=t_.Subs) rfl)<|un1 (v:=(B (decide ((t_.Subs.length:Int)=0)))) rfl<|un1 rfl<|dnil<|Sv.ret ?_
    exact rt0 h rfl rfl ⟨rfl,rfl,rfl⟩
abbrev Zel (mL:Int) (o:Bool):AExit→St→Prop:=AThen (Sv Tryz.prog (GG mL) 0 a20_c4 (Ends a20.results 0 (Z2s o))) (Ends a20.results 0 (Z2s o))
noncomputable def Z1s (t_:TSTest) (rec_selector_paths:(List Raw)→Option Bool) (v62:Bool):Option Bool :=
 if v62 then
  some false
 else
  if (!decide (t_.Op=0)) then
   if (!decide (t_.Kind=5)) then
    Z1j t_ rec_selector_paths true
   else
    (Z2r [61,126,124,94,36,42] t_.Op).bind fun r_1 =>
    Z1j t_ rec_selector_paths ((decide (r_1<0))||((decide (t_.Op=0))&&(!decide (t_.Value=[]))))
  else
   Z1j t_ rec_selector_paths ((decide (t_.Op=0))&&(!decide (t_.Value=[])))
theorem Zaa {mL:Int}{t_:TSTest}{rec_selector_paths:(List Raw)→Option Bool}{v62:Bool}{o:Bool}(h:Z1s t_ rec_selector_paths v62=some o)
  (hrec_selector_paths:Z29 mL rec_selector_paths) :
  Sv Tryz.prog (GG mL) 0 a20_c1 (Zel mL o) ⟨(ue [(62,(B v62)),(2,(.c (.ref 0 7 0 0)))]),(upd e0 0 (some (.cells 7 [(e_TSTest t_)]))),1⟩:=by
 unfold Z1s at h
 refine Sv.cnd rfl h (fun h=>?_) fun h=>?_
 ·refine ssr<|un1 rfl<|dnil<|Sv.ret ?_
  exact rt0 h rfl rfl ⟨rfl,rfl,rfl⟩
 ·refine Sv.skip<|Sv.seq<|ssr<|un1 (v:=(.c (.ref 0 7 0 2))) rfl<|un1 (v:=(.c (.val (.int .u8 t_.Op)))) rfl<|un1 (v:=(B (!decide (t_.Op=0)))) rfl<|un1 rfl ?_
  refine spl h (fun h=>?_) fun h=>?_
  ·refine gt rfl<|a1 (v:=(.c (.ref 0 7 0 0))) rfl<|gt rfl<|a1 (v:=(I t_.Kind)) rfl<|gt rfl<|a1 (v:=(B (!decide (t_.Kind=5)))) rfl<|gt rfl<|a1 rfl ?_
   refine spl h (fun h=>?_) fun h=>?_
   ·refine gs rfl rfl<|gs rfl rfl<|gs rfl rfl<|gs rfl rfl<|gt rfl<|a1 (v:=(B true)) rfl<|un1 (v:=(B true)) rfl<|un1 rfl ?_
    repeat (first | refine gu rfl ?_ | refine gs rfl rfl ?_)
    refine un1 (v:=(B true)) rfl<|dnil ?_
    exact Sv.weak (wcn [0] rfl (.cf rfl rfl (.cr rfl rfl rfl .nil)) (.box (by decide) rfl (blkAs_cells (.sm rfl (.sm rfl (.sm rfl (.sm rfl (.sm rfl (.sm rfl (.sm rfl .nil)))))))) .nil)) (Z7j h hrec_selector_paths)
   ·refine gt rfl<|a1 (v:=(.c (.ref 0 7 0 2))) rfl<|gt rfl<|a1 (v:=(.c (.val (.int .u8 t_.Op)))) rfl ?_
    obtain ⟨r_1,hr2,h⟩:=bnd h
    refine gt rfl<|ac_pure (Za9 hr2) rfl rfl rfl<|gt rfl<|a1 (v:=(B (decide (r_1<0)))) rfl<|gt rfl<|a1 (v:=(B (decide (r_1<0)))) rfl<|un1 (v:=(B (decide (r_1<0)))) rfl<|un1 rfl ?_
    refine gjoin 9 (d:=86) (v:=(B ((decide (r_1<0))||((decide (t_.Op=0))&&(!decide (t_.Value=[])))))) (fun X hX=>?_) ?_
    ·refine split2 (fun hc14=>?_) (fun hc14=>?_)
     ·repeat (first | refine gu rfl ?_ | refine gs rfl rfl ?_)
      refine un1 (v:=(B true)) rfl<|dnil ?_
      exact hX _ (.putEq (by rw [hc14]; rfl) (by repeat (first | exact .putEq (by rw [hc14]) (.refl _) | refine .skp ?_ rfl)))
     ·refine gt rfl<|a1 (v:=(.c (.ref 0 7 0 2))) rfl<|gt rfl<|a1 (v:=(.c (.val (.int .u8 t_.Op)))) rfl<|gt rfl<|a1 (v:=(B (decide (t_.Op=0)))) rfl<|gt rfl<|a1 rfl ?_
      refine gjoin 4 (d:=85) (v:=(B ((decide (t_.Op=0))&&(!decide (t_.Value=[]))))) (fun X hX=>?_) ?_
      ·refine split2 (fun hc13=>?_) (fun hc13=>?_)
       ·refine gt rfl<|a1 (v:=(.c (.ref 0 7 0 3))) rfl<|gt rfl<|a1 (v:=(S t_.Value)) rfl<|gt rfl<|a1 (v:=(B (!decide (t_.Value=[])))) rfl<|gt rfl<|a1 (v:=(B (!decide (t_.Value=[])))) rfl<|dnil ?_
        exact hX _ (.putEq (by rw [hc13]; rfl) (.skp (.skp (.skp (.putEq (by rw [hc13]) (.refl _)) rfl) rfl) rfl))
       ·refine gs rfl rfl<|gs rfl rfl<|gs rfl rfl<|gt rfl<|a1 (v:=(B false)) rfl<|dnil ?_
        exact hX _ (.putEq (by rw [hc13]; rfl) (.skp (.skp (.skp (.putEq (by rw [hc13]) (.refl _)) rfl) rfl) rfl))
      refine un1 (v:=(B ((decide (t_.Op=0))&&(!decide (t_.Value=[]))))) rfl<|dnil ?_
      exact hX _ (.putEq (by rw [hc14]; rfl) (by repeat (first | exact .putEq (by rw [hc14]) (.refl _) | refine .skp ?_ rfl)))
    refine dnil ?_
    exact Sv.weak (wcn [0] rfl (.cf rfl rfl (.cr rfl rfl rfl .nil)) (.box (by decide) rfl (blkAs_cells (.sm rfl (.sm rfl (.sm rfl (.sm rfl (.sm rfl (.sm rfl (.sm rfl .nil)))))))) .nil)) (Z7j h hrec_selector_paths)
  ·repeat (first | refine gu rfl ?_ | refine gs rfl rfl ?_)
   refine un1 (v:=(B false)) rfl<|un1 rfl<|gt rfl<|a1 (v:=(.c (.ref 0 7 0 2))) rfl<|gt rfl<|a1 (v:=(.c (.val (.int .u8 t_.Op)))) rfl<|gt rfl<|a1 (v:=(B (decide (t_.Op=0)))) rfl<|gt rfl<|a1 rfl ?_
   refine gjoin 4 (d:=85) (v:=(B ((decide (t_.Op=0))&&(!decide (t_.Value=[]))))) (fun X hX=>?_) ?_
   ·refine split2 (fun hc15=>?_) (fun hc15=>?_)
    ·refine gt rfl<|a1 (v:=(.c (.ref 0 7 0 3))) rfl<|gt rfl<|a1 (v:=(S t_.Value)) rfl<|gt rfl<|a1 (v:=(B (!decide (t_.Value=[])))) rfl<|gt rfl<|a1 (v:=(B (!decide (t_.Value=[])))) rfl<|dnil ?_
     exact hX _ (.putEq (by rw [hc15]; rfl) (.skp (.skp (.skp (.putEq (by rw [hc15]) (.refl _)) rfl) rfl) rfl))
    ·refine gs rfl rfl<|gs rfl rfl<|gs rfl rfl<|gt rfl<|a1 (v:=(B false)) rfl<|dnil ?_
     exact hX _ (.putEq (by rw [hc15]; rfl) (.skp (.skp (.skp (.putEq (by rw [hc15]) (.refl _)) rfl) rfl) rfl))
   refine un1 (v:=(B ((decide (t_.Op=0))&&(!decide (t_.Value=[]))))) rfl<|dnil ?_
   exact Sv.weak (wcn [0] rfl (.cf rfl rfl (.cr rfl rfl rfl .nil)) (.box (by decide) rfl (blkAs_cells (.sm rfl (.sm rfl (.sm rfl (.sm rfl (.sm rfl (.sm rfl (.sm rfl .nil)))))))) .nil)) (Z7j h hrec_selector_paths)
abbrev Zem (mL:Int) (o:Bool):AExit→St→Prop:=AThen (Sv Tryz.prog (GG mL) 0 a20_c5 (Ends a20.results 0 (Z2s o))) (Ends a20.results 0 (Z2s o))
noncomputable def Z11 (t_:TSTest) (rec_selector_paths:(List Raw)→Option Bool) (v46:Bool):Option Bool :=
 if v46 then
  some false
 else
  if ((decide (t_.Kind=2))||(decide (t_.Kind=5))) then
   (Z1q t_.Name).bind fun r_2 =>
   Z1s t_ rec_selector_paths (!decide (t_.Name=r_2))
  else
   Z1s t_ rec_selector_paths false
theorem Z7k {mL:Int}{t_:TSTest}{rec_selector_paths:(List Raw)→Option Bool}{v46:Bool}{o:Bool}(h:Z11 t_ rec_selector_paths v46=some o)
  (hrec_selector_paths:Z29 mL rec_selector_paths) :
  Sv Tryz.prog (GG mL) 0 a20_c0 (Zem mL o) ⟨(ue [(46,(B v46)),(2,(.c (.ref 0 7 0 0)))]),(upd e0 0 (some (.cells 7 [(e_TSTest t_)]))),1⟩:=by
 unfold Z11 at h
 refine Sv.cnd rfl h (fun h=>?_) fun h=>?_
 ·refine ssr<|un1 rfl<|dnil<|Sv.ret ?_
  exact rt0 h rfl rfl ⟨rfl,rfl,rfl⟩
 ·refine Sv.skip<|Sv.seq<|Sv.seq<|Sv.drawn<|un1 (v:=(.c (.ref 0 7 0 0))) rfl<|un1 (v:=(I t_.Kind)) rfl<|un1 (v:=(B (decide (t_.Kind=2)))) rfl<|un1 rfl ?_
  refine gjoin 4 (d:=54) (v:=(B ((decide (t_.Kind=2))||(decide (t_.Kind=5))))) (fun X hX=>?_) ?_
  ·refine split2 (fun hc16=>?_) (fun hc16=>?_)
   ·refine gs rfl rfl<|gs rfl rfl<|gs rfl rfl<|un1 (v:=(B true)) rfl<|dnil ?_
    exact hX _ (.putEq (by rw [hc16]; rfl) (.skp (.skp (.skp (.putEq (by rw [hc16]) (.refl _)) rfl) rfl) rfl))
   ·refine gt rfl<|a1 (v:=(.c (.ref 0 7 0 0))) rfl<|gt rfl<|a1 (v:=(I t_.Kind)) rfl<|gt rfl<|a1 (v:=(B (decide (t_.Kind=5)))) rfl<|un1 (v:=(B (decide (t_.Kind=5)))) rfl<|dnil ?_
    exact hX _ (.putEq (by rw [hc16]; rfl) (.skp (.skp (.skp (.putEq (by rw [hc16]) (.refl _)) rfl) rfl) rfl))
  refine un1 rfl ?_
  refine spl h (fun h=>?_) fun h=>?_
  ·refine gt rfl<|a1 (v:=(.c (.ref 0 7 0 1))) rfl<|gt rfl<|a1 (v:=(S t_.Name)) rfl<|gt rfl<|a1 (v:=(.c (.ref 0 7 0 1))) rfl<|gt rfl<|a1 (v:=(S t_.Name)) rfl ?_
   obtain ⟨r_2,hr3,h⟩:=bnd h
   refine gt rfl<|ac_pure (Z4i hr3) rfl rfl rfl<|gt rfl<|a1 (v:=(B (!decide (t_.Name=r_2)))) rfl<|un1 (v:=(B (!decide (t_.Name=r_2)))) rfl<|dnil ?_
   exact Sv.weak (wcn [0] rfl (.cf rfl rfl (.cr rfl rfl rfl .nil)) (.box (by decide) rfl (blkAs_cells (.sm rfl (.sm rfl (.sm rfl (.sm rfl (.sm rfl (.sm rfl (.sm rfl .nil)))))))) .nil)) (Zaa h hrec_selector_paths)
  ·repeat (first | refine gu rfl ?_ | refine gs rfl rfl ?_)
   refine un1 (v:=(B false)) rfl<|dnil ?_
   exact Sv.weak (wcn [0] rfl (.cf rfl rfl (.cr rfl rfl rfl .nil)) (.box (by decide) rfl (blkAs_cells (.sm rfl (.sm rfl (.sm rfl (.sm rfl (.sm rfl (.sm rfl (.sm rfl .nil)))))))) .nil)) (Zaa h hrec_selector_paths)
noncomputable def Zh (rec_selector_paths:(List Raw)→Option Bool) (t_:TSTest) (at_:Int):Option Bool :=
 if ((((decide (t_.Kind<1))||(decide (11<t_.Kind)))||((decide (t_.Kind≤2))&&(decide (0<at_))))||(!((((decide (2≤t_.Kind))&&(decide (t_.Kind≤5))) == (!decide (t_.Name=[])))&&true))) then
  Z11 t_ rec_selector_paths true
 else
  if ((decide (2≤t_.Kind))&&(decide (t_.Kind≤5))) then
   (Z3l t_.Name).bind fun r_3 =>
   Z11 t_ rec_selector_paths (!r_3)
  else
   Z11 t_ rec_selector_paths false
theorem Zen {mL:Int}{rec_selector_paths:(List Raw)→Option Bool}(hrec_selector_paths:Z29 mL rec_selector_paths) {t_:TSTest}{at_:Int}{r:Bool}(h:Zh rec_selector_paths t_ at_=some r):CPure Tryz.prog (GG mL) 20 [(.agg (e_TSTest t_)),(I at_)] (B r):=by
 refine acalls_of_sv hmix c20 (R:=Z2s r) ?_
 unfold Zh at h
 refine ssr<|un<|a2v (v:=(.c (.ref 0 7 0 0))) (h' := upd _ 0 (some (.cells 7 [(e_TSTest t_)]))) (n' := 1) rfl rfl hcs<|un1 rfl<|dnil<|ssr<|un1 (v:=(.c (.ref 0 7 0 0))) rfl<|un1 (v:=(I t_.Kind)) rfl<|un1 (v:=(B (decide (2≤t_.Kind)))) rfl<|un1 rfl ?_
 refine gjoin 4 (d:=13) (v:=(B ((decide (2≤t_.Kind))&&(decide (t_.Kind≤5))))) (fun X hX=>?_) ?_
 ·refine split2 (fun hc1=>?_) (fun hc1=>?_)
  ·refine gt rfl<|a1 (v:=(.c (.ref 0 7 0 0))) rfl<|gt rfl<|a1 (v:=(I t_.Kind)) rfl<|gt rfl<|a1 (v:=(B (decide (t_.Kind≤5)))) rfl<|un1 (v:=(B (decide (t_.Kind≤5)))) rfl<|dnil ?_
   exact hX _ (.putEq (by rw [hc1]; rfl) (.skp (.skp (.skp (.putEq (by rw [hc1]) (.refl _)) rfl) rfl) rfl))
  ·refine gs rfl rfl<|gs rfl rfl<|gs rfl rfl<|un1 (v:=(B false)) rfl<|dnil ?_
   exact hX _ (.putEq (by rw [hc1]; rfl) (.skp (.skp (.skp (.putEq (by rw [hc1]) (.refl _)) rfl) rfl) rfl))
 refine un1 rfl<|dnil<|Sv.seq<|ssr<|un1 (v:=(.c (.ref 0 7 0 0))) rfl<|un1 (v:=(I t_.Kind)) rfl<|un1 (v:=(B (decide (t_.Kind<1)))) rfl<|un1 rfl ?_
 refine gjoin 4 (d:=21) (v:=(B ((decide (t_.Kind<1))||(decide (11<t_.Kind))))) (fun X hX=>?_) ?_
 ·refine split2 (fun hc18=>?_) (fun hc18=>?_)
  ·refine gs rfl rfl<|gs rfl rfl<|gs rfl rfl<|un1 (v:=(B true)) rfl<|dnil ?_
   exact hX _ (.putEq (by rw [hc18]; rfl) (.skp (.skp (.skp (.putEq (by rw [hc18]) (.refl _)) rfl) rfl) rfl))
  ·refine gt rfl<|a1 (v:=(.c (.ref 0 7 0 0))) rfl<|gt rfl<|a1 (v:=(I t_.Kind)) rfl<|gt rfl<|a1 (v:=(B (decide (11<t_.Kind)))) rfl<|un1 (v:=(B (decide (11<t_.Kind)))) rfl<|dnil ?_
   exact hX _ (.putEq (by rw [hc18]; rfl) (.skp (.skp (.skp (.putEq (by rw [hc18]) (.refl _)) rfl) rfl) rfl))
 refine un1 rfl ?_
 refine gjoin 8 (d:=30) (v:=(B (((decide (t_.Kind<1))||(decide (11<t_.Kind)))||((decide (t_.Kind≤2))&&(decide (0<at_)))))) (fun X hX=>?_) ?_
 ·refine split2 (fun hc20=>?_) (fun hc20=>?_)
  ·repeat (first | refine gu rfl ?_ | refine gs rfl rfl ?_)
   refine un1 (v:=(B true)) rfl<|dnil ?_
   exact hX _ (.putEq (by rw [hc20]; rfl) (by repeat (first | exact .putEq (by rw [hc20]) (.refl _) | refine .skp ?_ rfl)))
  ·refine gt rfl<|a1 (v:=(.c (.ref 0 7 0 0))) rfl<|gt rfl<|a1 (v:=(I t_.Kind)) rfl<|gt rfl<|a1 (v:=(B (decide (t_.Kind≤2)))) rfl<|gt rfl<|a1 rfl ?_
   refine gjoin 3 (d:=29) (v:=(B ((decide (t_.Kind≤2))&&(decide (0<at_))))) (fun X hX=>?_) ?_
   ·refine split2 (fun hc19=>?_) (fun hc19=>?_)
    ·refine gt rfl<|a1 rfl<|gt rfl<|a1 (v:=(B (decide (0<at_)))) rfl<|gt rfl<|a1 (v:=(B (decide (0<at_)))) rfl<|dnil ?_
     exact hX _ (.putEq (by rw [hc19]; rfl) (.skp (.skp (.putEq (by rw [hc19]) (.refl _)) rfl) rfl))
    ·refine gs rfl rfl<|gs rfl rfl<|gt rfl<|a1 (v:=(B false)) rfl<|dnil ?_
     exact hX _ (.putEq (by rw [hc19]; rfl) (.skp (.skp (.putEq (by rw [hc19]) (.refl _)) rfl) rfl))
   refine un1 (v:=(B ((decide (t_.Kind≤2))&&(decide (0<at_))))) rfl<|dnil ?_
   exact hX _ (.putEq (by rw [hc20]; rfl) (by repeat (first | exact .putEq (by rw [hc20]) (.refl _) | refine .skp ?_ rfl)))
 refine un1 rfl ?_
 refine gjoin 6 (d:=37) (v:=(B ((((decide (t_.Kind<1))||(decide (11<t_.Kind)))||((decide (t_.Kind≤2))&&(decide (0<at_))))||(!((((decide (2≤t_.Kind))&&(decide (t_.Kind≤5))) == (!decide (t_.Name=[])))&&true))))) (fun X hX=>?_) ?_
 ·refine split2 (fun hc21=>?_) (fun hc21=>?_)
  ·repeat (first | refine gu rfl ?_ | refine gs rfl rfl ?_)
   refine un1 (v:=(B true)) rfl<|dnil ?_
   exact hX _ (.putEq (by rw [hc21]; rfl) (by repeat (first | exact .putEq (by rw [hc21]) (.refl _) | refine .skp ?_ rfl)))
  ·refine gt rfl<|a1 rfl<|gt rfl<|a1 (v:=(.c (.ref 0 7 0 1))) rfl<|gt rfl<|a1 (v:=(S t_.Name)) rfl<|gt rfl<|a1 (v:=(B (!decide (t_.Name=[])))) rfl<|gt rfl<|a1 (v:=(B (!((((decide (2≤t_.Kind))&&(decide (t_.Kind≤5))) == (!decide (t_.Name=[])))&&true)))) rfl<|un1 (v:=(B (!((((decide (2≤t_.Kind))&&(decide (t_.Kind≤5))) == (!decide (t_.Name=[])))&&true)))) rfl<|dnil ?_
   exact hX _ (.putEq (by rw [hc21]; rfl) (by repeat (first | exact .putEq (by rw [hc21]) (.refl _) | refine .skp ?_ rfl)))
 refine un1 rfl ?_
 refine spl h (fun h=>?_) fun h=>?_
 ·repeat (first | refine gu rfl ?_ | refine gs rfl rfl ?_)
  refine un1 (v:=(B true)) rfl<|dnil ?_
  exact Sv.weak (wcn [0] rfl (.cf rfl rfl (.cr rfl rfl rfl .nil)) (.box (by decide) rfl (blkAs_cells (.sm rfl (.sm rfl (.sm rfl (.sm rfl (.sm rfl (.sm rfl (.sm rfl .nil)))))))) .nil)) (Z7k h hrec_selector_paths)
 ·refine gt rfl<|a1 rfl<|gt rfl<|a1 rfl ?_
  refine spl h (fun h=>?_) fun h=>?_
  ·refine gt rfl<|a1 (v:=(.c (.ref 0 7 0 1))) rfl<|gt rfl<|a1 (v:=(S t_.Name)) rfl ?_
   obtain ⟨r_3,hr4,h⟩:=bnd h
   refine gt rfl<|ac_pure (Z9d hr4) rfl rfl rfl<|gt rfl<|a1 (v:=(B (!r_3))) rfl<|gt rfl<|a1 (v:=(B (!r_3))) rfl<|un1 (v:=(B (!r_3))) rfl<|dnil ?_
   exact Sv.weak (wcn [0] rfl (.cf rfl rfl (.cr rfl rfl rfl .nil)) (.box (by decide) rfl (blkAs_cells (.sm rfl (.sm rfl (.sm rfl (.sm rfl (.sm rfl (.sm rfl (.sm rfl .nil)))))))) .nil)) (Z7k h hrec_selector_paths)
  ·refine gs rfl rfl<|gs rfl rfl<|gs rfl rfl<|gs rfl rfl<|gt rfl<|a1 (v:=(B false)) rfl<|un1 (v:=(B false)) rfl<|dnil ?_
   exact Sv.weak (wcn [0] rfl (.cf rfl rfl (.cr rfl rfl rfl .nil)) (.box (by decide) rfl (blkAs_cells (.sm rfl (.sm rfl (.sm rfl (.sm rfl (.sm rfl (.sm rfl (.sm rfl .nil)))))))) .nil)) (Z7k h hrec_selector_paths)
def a12_c0:ACode:=(sr [(oP 41 (.bin .lss (.tmp 40) (.tmp 39)))]
 (.seq (.cond (.tmp 41) .skip (.exit 4))
 (.seq (.block 5 (sr [(mV 42 40),(oP 43 (.iaddr 7 (.tmp 38) (.tmp 40))),(oP 44 (.load true 7 (.tmp 43))),(oP 8 (.box (.const (.agg [(.val (.int .i64 0)),(.str []),(.val (.int .u8 0)),(.str []),(.val (.int .i64 0)),(.val (.int .i64 0)),(.ro true 2 [])])))),(mV 7 42),(oN (.store 7 (.tmp 8) (.tmp 44)))]
 (sr [(oP 45 (.load true 7 (.tmp 8))),(mV 46 7),(oP 47 (.call 20 [(.tmp 45),(.tmp 46)])),(oP 48 (.un .not (.tmp 47)))]
 (.cond (.tmp 48) (sr [(oP 2 (.mov kF))]
 .ret) .skip))))
 (.region [(oP 49 (.bin .add (.tmp 40) (kI 1))),(mV 40 49)]))))
def a12_c1:ACode:=(sr [(oP 35 (.bin .lss (.tmp 34) (.tmp 33)))]
 (.seq (.cond (.tmp 35) .skip (.exit 2))
 (.seq (.block 3 (sr [(oP 36 (.iaddr 1 (.tmp 32) (.tmp 34))),(oP 37 (.load false 1 (.tmp 36))),(mV 6 37)]
 (.seq (sr [(mV 38 6),(oP 39 (.len (.tmp 38))),(oP 40 (.mov (kI 0)))]
 (.block 4 (.loop a12_c0)))
 (sr [(mV 50 6),(oP 51 (.len (.tmp 50))),(oP 52 (.bin .eql (.tmp 51) (kI 0)))]
 (.cond (.tmp 52) (sr [(oP 2 (.mov kF))]
 .ret) .skip)))))
 (.region [(oP 53 (.bin .add (.tmp 34) (kI 1))),(mV 34 53)]))))
def a12_c2:ACode:=(sr [(oP 58 (.bin .lss (.tmp 57) (.tmp 56)))]
 (.seq (.cond (.tmp 58) .skip (.exit 6))
 (.seq (.block 7 (sr [(oP 59 (.iaddr 1 (.tmp 55) (.tmp 57))),(oP 60 (.load false 1 (.tmp 59))),(mV 10 60)]
 (sr [(mV 61 10),(oP 62 (.call 21 [(.const (.c (.str [32,62,43,126]))),(.tmp 61)])),(oP 63 (.bin .lss (.tmp 62) (kI 0)))]
 (.cond (.tmp 63) (sr [(oP 2 (.mov kF))]
 .ret) .skip))))
 (.region [(oP 64 (.bin .add (.tmp 57) (kI 1))),(mV 57 64)]))))
def a12_c3:ACode:=(sr [(oP 14 (.bin .lss (.tmp 13) (.tmp 12)))]
 (.seq (.cond (.tmp 14) .skip (.exit 0))
 (.seq (.block 1 (sr [(oP 15 (.iaddr 2 (.tmp 11) (.tmp 13))),(oP 16 (.load true 2 (.tmp 15))),(oP 4 (.box (.const (.agg [(.ro true 1 []),(.ro true 1 [])])))),(oN (.store 2 (.tmp 4) (.tmp 16)))]
 (.seq (sr [(oP 17 (.faddr 0 (.tmp 4))),(oP 18 (.load false 1 (.tmp 17))),(oP 19 (.len (.tmp 18))),(oP 20 (.bin .eql (.tmp 19) (kI 0))),(mV 21 20),⟨(some 22),(.faddr 1 (.tmp 4)),(some (21,false))⟩,⟨(some 23),(.load false 1 (.tmp 22)),(some (21,false))⟩,⟨(some 24),(.len (.tmp 23)),(some (21,false))⟩,⟨(some 25),(.faddr 0 (.tmp 4)),(some (21,false))⟩,⟨(some 26),(.load false 1 (.tmp 25)),(some (21,false))⟩,⟨(some 27),(.len (.tmp 26)),(some (21,false))⟩,⟨(some 28),(.bin .sub (.tmp 27) (kI 1)),(some (21,false))⟩,⟨(some 29),(.bin .neq (.tmp 24) (.tmp 28)),(some (21,false))⟩,(oP 30 (.pick (.tmp 21) kT (.tmp 29)))]
 (.cond (.tmp 30) (sr [(oP 2 (.mov kF))]
 .ret) .skip))
 (.seq (sr [(oP 31 (.faddr 0 (.tmp 4))),(oP 32 (.load false 1 (.tmp 31))),(oP 33 (.len (.tmp 32))),(oP 34 (.mov (kI 0)))]
 (.block 2 (.loop a12_c1)))
 (sr [(oP 54 (.faddr 1 (.tmp 4))),(oP 55 (.load false 1 (.tmp 54))),(oP 56 (.len (.tmp 55))),(oP 57 (.mov (kI 0)))]
 (.block 6 (.loop a12_c2)))))))
 (.region [(oP 65 (.bin .add (.tmp 13) (kI 1))),(mV 13 65)]))))
def a12:AFunc:=⟨1,[(.tmp 2)],(sr [(oP 2 (.mov kF))]
 (.seq (sr [(mV 11 0),(oP 12 (.len (.tmp 11))),(oP 13 (.mov (kI 0)))]
 (.block 0 (.loop a12_c3)))
 (sr [(mV 66 0),(oP 67 (.len (.tmp 66))),(oP 68 (.bin .gtr (.tmp 67) (kI 0))),(mV 2 68)]
 .ret)))⟩
theorem c12:compFunc Tryz.prog 12=some a12:=by kernel_rfl
abbrev Zeo (l_:(List Raw)) (x_1:(List TSTest)) (v13:Int) (x_:TSPath) (v34:Int) (F_:Unit→Option Bool) (o:Bool) (R_:St→Prop):Prop:=∀(_:Unit),F_ ()=some o→∀ s,Weak 0 s ⟨(ue [(34,(I v34)),(33,(I (x_.Steps.length:Int))),(32,(.c (.ro false 1 (x_.Steps.map (eSl 7 e_TSTest))))),(13,(I v13)),(12,(I (l_.length:Int))),(11,(.c (.ro false 2 (l_.map eRaw)))),(6,(.c (.ro false 7 (x_1.map e_TSTest)))),(4,(.c (.ref 0 2 0 0))),(0,(.c (.ro false 2 (l_.map eRaw))))]),(upd e0 0 (some (.cells 2 [(e_TSPath x_)]))),1⟩→R_ s
abbrev Zab (l_:(List Raw)) (x_1:(List TSTest)) (v13:Int) (x_:TSPath) (v34:Int) (F_:Nat→Int→Option Bool) (o:Bool):Nat→St→Prop:=fun k s=>∃(v40:Int),F_ k v40=some o∧s=⟨(ue [(40,(I v40)),(39,(I (x_1.length:Int))),(38,(.c (.ro false 7 (x_1.map e_TSTest)))),(34,(I v34)),(33,(I (x_.Steps.length:Int))),(32,(.c (.ro false 1 (x_.Steps.map (eSl 7 e_TSTest))))),(13,(I v13)),(12,(I (l_.length:Int))),(11,(.c (.ro false 2 (l_.map eRaw)))),(6,(.c (.ro false 7 (x_1.map e_TSTest)))),(4,(.c (.ref 0 2 0 0))),(0,(.c (.ro false 2 (l_.map eRaw))))]),(upd e0 0 (some (.cells 2 [(e_TSPath x_)]))),1⟩
abbrev Zep (l_:(List Raw)) (x_1:(List TSTest)) (v13:Int) (x_:TSPath) (v34:Int) (F_:Int→Option Bool) (o:Bool) (R_:St→Prop):Prop:=∀(v40:Int),F_ v40=some o→∀ s,Weak 0 s ⟨(ue [(40,(I v40)),(39,(I (x_1.length:Int))),(38,(.c (.ro false 7 (x_1.map e_TSTest)))),(34,(I v34)),(33,(I (x_.Steps.length:Int))),(32,(.c (.ro false 1 (x_.Steps.map (eSl 7 e_TSTest))))),(13,(I v13)),(12,(I (l_.length:Int))),(11,(.c (.ro false 2 (l_.map eRaw)))),(6,(.c (.ro false 7 (x_1.map e_TSTest)))),(4,(.c (.ref 0 2 0 0))),(0,(.c (.ro false 2 (l_.map eRaw))))]),(upd e0 0 (some (.cells 2 [(e_TSPath x_)]))),1⟩→R_ s
noncomputable def Zb (x_1:(List TSTest)) (recf:(List Raw)→Option Bool) (l_:(List Raw)) (v13:Int) (x_:TSPath) (v34:Int) (K4_:Unit→Option Bool):Nat→Int→Option Bool
 | 0,_=>none
 | k+1,v40 =>
  if decide (v40<(x_1.length:Int)) then
   (at? x_1 v40).bind fun x_2 =>
   (Zh recf x_2 v40).bind fun r_1 =>
   if (!r_1) then
    some false
   else
    (Zb x_1 recf l_ v13 x_ v34 K4_ k) (wi (v40+1))
  else
   K4_ ()
theorem Zeq {mL:Int}{Q:AExit→St→Prop}{x_1:(List TSTest)}{recf:(List Raw)→Option Bool}{l_:(List Raw)}{v13:Int}{x_:TSPath}{v34:Int}{K4_:Unit→Option Bool}{k:Nat}{v40:Int}{o:Bool}(h:Zb x_1 recf l_ v13 x_ v34 K4_ k v40=some o)
  (hK4:Zeo l_ x_1 v13 x_ v34 K4_ o (Q (.exit 4)))
  (hr:∀ s,Ends a12.results 0 (Z4p o) .ret s→Q .ret s)
  (hrec:Z29 mL recf) :
  Sv Tryz.prog (GG mL) 0 (.loop a12_c0) Q ⟨(ue [(40,(I v40)),(39,(I (x_1.length:Int))),(38,(.c (.ro false 7 (x_1.map e_TSTest)))),(34,(I v34)),(33,(I (x_.Steps.length:Int))),(32,(.c (.ro false 1 (x_.Steps.map (eSl 7 e_TSTest))))),(13,(I v13)),(12,(I (l_.length:Int))),(11,(.c (.ro false 2 (l_.map eRaw)))),(6,(.c (.ro false 7 (x_1.map e_TSTest)))),(4,(.c (.ref 0 2 0 0))),(0,(.c (.ro false 2 (l_.map eRaw))))]),(upd e0 0 (some (.cells 2 [(e_TSPath x_)]))),1⟩:=by
 refine Sv.loop (I:=Zab l_ x_1 v13 x_ v34 (Zb x_1 recf l_ v13 x_ v34 K4_) o) (fun k s hI=>?_) ⟨v40,h,rfl⟩
 clear h
 clear v40
 obtain ⟨v40,h,rfl⟩:=hI
 cases k with
 | zero=>cases h
 | succ k =>
 rw [Zb] at h
 have hself:Zep l_ x_1 v13 x_ v34 (Zb x_1 recf l_ v13 x_ v34 K4_ k) o (rnd 0 (Zab l_ x_1 v13 x_ v34 (Zb x_1 recf l_ v13 x_ v34 K4_) o) k Q):=fun v40 h s hw=>⟨_,k,hw,Nat.lt_succ_self k,v40,h,rfl⟩
 refine ssr<|un1 (v:=(B (decide (v40<(x_1.length:Int))))) rfl<|dnil<|Sv.seq ?_
 refine Sv.cnd rfl h (fun h=>?_) fun h=>?_
 ·refine Sv.skip<|Sv.seq<|Sv.block<|ssr<|un1 rfl ?_
  obtain ⟨x_2,hx3,h⟩:=bnd h
  refine un1 (v:=(.c (.rop (e_TSTest x_2)))) (s_iaddr (e:=e_TSTest) (xs:=x_1) rfl rfl hx3)<|un1 (v:=(.agg (e_TSTest x_2))) rfl<|un<|a2v (v:=(.c (.ref 1 7 0 0))) (h' := upd _ 1 (some (.cells 7 [[cI 0,.str [],.val (.int .u8 0),.str [],cI 0,cI 0,.ro true 2 []]]))) (n' := 2) rfl rfl hcs<|un1 rfl<|un<|a2n (h' := upd _ 1 (some (.cells 7 [(e_TSTest x_2)]))) (n' := 2) rfl rfl hcs<|dnil<|ssr<|un1 (v:=(.agg (e_TSTest x_2))) rfl<|un1 rfl ?_
  obtain ⟨r_1,hr2,h⟩:=bnd h
  refine un<|ac_pure (Zen hrec hr2) rfl rfl rfl<|un1 (v:=(B (!r_1))) rfl<|dnil ?_
  refine Sv.cnd rfl h (fun h=>?_) fun h=>?_
  ·refine ssr<|un1 rfl<|dnil<|Sv.ret ?_
   exact hr _ (rt0 h rfl rfl ⟨rfl,rfl,rfl⟩)
  ·refine Sv.skip<|srg<|un1 (v:=(I (wi (v40+1)))) rfl<|un1 rfl<|dnil ?_
   exact hself (wi (v40+1)) h _ (wcn [0] rfl (.cf rfl rfl (.cf rfl rfl (.cf rfl rfl (.cf rfl rfl (.cf rfl rfl (.cf rfl rfl (.cf rfl rfl (.cf rfl rfl (.cf rfl rfl (.cf rfl rfl (.cr rfl rfl rfl (.cf rfl rfl .nil)))))))))))) (.box (by decide) rfl (blkAs_cells (.sm rfl (.sm rfl .nil))) .nil))
 ·refine Sv.exit ?_
  exact hK4 () h _ (wcn [0] rfl (.cf rfl rfl (.cf rfl rfl (.cf rfl rfl (.cf rfl rfl (.cf rfl rfl (.cf rfl rfl (.cf rfl rfl (.cr rfl rfl rfl (.cf rfl rfl .nil))))))))) (.box (by decide) rfl (blkAs_cells (.sm rfl (.sm rfl .nil))) .nil))
abbrev Zer (l_:(List Raw)) (v13:Int) (x_:TSPath) (F_:Unit→Option Bool) (o:Bool) (R_:St→Prop):Prop:=∀(_:Unit),F_ ()=some o→∀ s,Weak 0 s ⟨(ue [(13,(I v13)),(12,(I (l_.length:Int))),(11,(.c (.ro false 2 (l_.map eRaw)))),(4,(.c (.ref 0 2 0 0))),(0,(.c (.ro false 2 (l_.map eRaw))))]),(upd e0 0 (some (.cells 2 [(e_TSPath x_)]))),1⟩→R_ s
abbrev Zac (l_:(List Raw)) (v13:Int) (x_:TSPath) (F_:Nat→Int→Option Bool) (o:Bool):Nat→St→Prop:=fun k s=>∃(v34:Int),F_ k v34=some o∧s=⟨(ue [(34,(I v34)),(33,(I (x_.Steps.length:Int))),(32,(.c (.ro false 1 (x_.Steps.map (eSl 7 e_TSTest))))),(13,(I v13)),(12,(I (l_.length:Int))),(11,(.c (.ro false 2 (l_.map eRaw)))),(4,(.c (.ref 0 2 0 0))),(0,(.c (.ro false 2 (l_.map eRaw))))]),(upd e0 0 (some (.cells 2 [(e_TSPath x_)]))),1⟩
abbrev Zes (l_:(List Raw)) (v13:Int) (x_:TSPath) (F_:Int→Option Bool) (o:Bool) (R_:St→Prop):Prop:=∀(v34:Int),F_ v34=some o→∀ s,Weak 0 s ⟨(ue [(34,(I v34)),(33,(I (x_.Steps.length:Int))),(32,(.c (.ro false 1 (x_.Steps.map (eSl 7 e_TSTest))))),(13,(I v13)),(12,(I (l_.length:Int))),(11,(.c (.ro false 2 (l_.map eRaw)))),(4,(.c (.ref 0 2 0 0))),(0,(.c (.ro false 2 (l_.map eRaw))))]),(upd e0 0 (some (.cells 2 [(e_TSPath x_)]))),1⟩→R_ s
noncomputable def Z5 (x_:TSPath) (recf:(List Raw)→Option Bool) (l_:(List Raw)) (v13:Int) (K2_:Unit→Option Bool):Nat→Int→Option Bool
 | 0,_=>none
 | k+1,v34 =>
  if decide (v34<(x_.Steps.length:Int)) then
   (at? x_.Steps v34).bind fun x_1 =>
   limF fun kk=>Zb x_1 recf l_ v13 x_ v34 (fun (_:Unit) => 
     if decide ((x_1.length:Int)=0) then
      some false
     else
      (Z5 x_ recf l_ v13 K2_ k) (wi (v34+1))) kk 0
  else
   K2_ ()
theorem Zet {mL:Int}{Q:AExit→St→Prop}{x_:TSPath}{recf:(List Raw)→Option Bool}{l_:(List Raw)}{v13:Int}{K2_:Unit→Option Bool}{k:Nat}{v34:Int}{o:Bool}(h:Z5 x_ recf l_ v13 K2_ k v34=some o)
  (hK2:Zer l_ v13 x_ K2_ o (Q (.exit 2)))
  (hr:∀ s,Ends a12.results 0 (Z4p o) .ret s→Q .ret s)
  (hrec:Z29 mL recf) :
  Sv Tryz.prog (GG mL) 0 (.loop a12_c1) Q ⟨(ue [(34,(I v34)),(33,(I (x_.Steps.length:Int))),(32,(.c (.ro false 1 (x_.Steps.map (eSl 7 e_TSTest))))),(13,(I v13)),(12,(I (l_.length:Int))),(11,(.c (.ro false 2 (l_.map eRaw)))),(4,(.c (.ref 0 2 0 0))),(0,(.c (.ro false 2 (l_.map eRaw))))]),(upd e0 0 (some (.cells 2 [(e_TSPath x_)]))),1⟩:=by
 refine Sv.loop (I:=Zac l_ v13 x_ (Z5 x_ recf l_ v13 K2_) o) (fun k s hI=>?_) ⟨v34,h,rfl⟩
 clear h
 clear v34
 obtain ⟨v34,h,rfl⟩:=hI
 cases k with
 | zero=>cases h
 | succ k =>
 rw [Z5] at h
 have hself:Zes l_ v13 x_ (Z5 x_ recf l_ v13 K2_ k) o (rnd 0 (Zac l_ v13 x_ (Z5 x_ recf l_ v13 K2_) o) k Q):=fun v34 h s hw=>⟨_,k,hw,Nat.lt_succ_self k,v34,h,rfl⟩
 refine ssr<|un1 (v:=(B (decide (v34<(x_.Steps.length:Int))))) rfl<|dnil<|Sv.seq ?_
 refine Sv.cnd rfl h (fun h=>?_) fun h=>?_
 ·refine Sv.skip<|Sv.seq<|Sv.block<|ssr ?_
  obtain ⟨x_1,hx2,h⟩:=bnd h
  refine un1 (v:=(.c (.rop [.ro false 7 (x_1.map e_TSTest)]))) (s_iaddr (e:=(eSl 7 e_TSTest)) (xs:=x_.Steps) rfl rfl hx2)<|un1 (v:=(.c (.ro false 7 (x_1.map e_TSTest)))) rfl<|un1 rfl<|dnil<|Sv.seq<|ssr<|un1 rfl<|un1 (v:=(I (x_1.length:Int))) (s_len (e:=e_TSTest) (xs:=x_1) rfl)<|un1 rfl<|dnil<|Sv.block ?_
  obtain ⟨kk,h⟩:=limF_some h
  refine Sv.weak (wcn [0] rfl (.cf rfl rfl (.cf rfl rfl (.cf rfl rfl (.cf rfl rfl (.cf rfl rfl (.cf rfl rfl (.cf rfl rfl (.cf rfl rfl (.cf rfl rfl (.cf rfl rfl (.cr rfl rfl rfl (.cf rfl rfl .nil)))))))))))) (.box (by decide) rfl (blkAs_cells (.sm rfl (.sm rfl .nil))) .nil)) (Zeq h ?_ hr hrec)
  ·intro _ h _ hw1
   refine Sv.weak hw1<|ssr<|un1 rfl<|un1 (v:=(I (x_1.length:Int))) (s_len (e:=e_TSTest) (xs:=x_1) rfl)<|un1 (v:=(B (decide ((x_1.length:Int)=0)))) rfl<|dnil ?_
   refine Sv.cnd rfl h (fun h=>?_) fun h=>?_
   ·refine ssr<|un1 rfl<|dnil<|Sv.ret ?_
    exact hr _ (rt0 h rfl rfl ⟨rfl,rfl,rfl⟩)
   ·refine Sv.skip<|srg<|un1 (v:=(I (wi (v34+1)))) rfl<|un1 rfl<|dnil ?_
    exact hself (wi (v34+1)) h _ (wcn [0] rfl (.cf rfl rfl (.cf rfl rfl (.cf rfl rfl (.cf rfl rfl (.cf rfl rfl (.cf rfl rfl (.cr rfl rfl rfl (.cf rfl rfl .nil)))))))) (.box (by decide) rfl (blkAs_cells (.sm rfl (.sm rfl .nil))) .nil))
 ·refine Sv.exit ?_
  exact hK2 () h _ (wcn [0] rfl (.cf rfl rfl (.cf rfl rfl (.cf rfl rfl (.cr rfl rfl rfl (.cf rfl rfl .nil))))) (.box (by decide) rfl (blkAs_cells (.sm rfl (.sm rfl .nil))) .nil))
abbrev Zeu (l_:(List Raw)) (v13:Int) (F_:Unit→Option Bool) (o:Bool) (R_:St→Prop):Prop:=∀(_:Unit),F_ ()=some o→∀ s,Weak 0 s ⟨(ue [(13,(I v13)),(12,(I (l_.length:Int))),(11,(.c (.ro false 2 (l_.map eRaw)))),(0,(.c (.ro false 2 (l_.map eRaw))))]),e0,0⟩→R_ s
abbrev Zad (l_:(List Raw)) (v13:Int) (x_:TSPath) (F_:Nat→Int→Option Bool) (o:Bool):Nat→St→Prop:=fun k s=>∃(v57:Int),F_ k v57=some o∧s=⟨(ue [(57,(I v57)),(56,(I (x_.Joins.length:Int))),(55,(.c (.ro false 1 (x_.Joins.map (eK .u8))))),(13,(I v13)),(12,(I (l_.length:Int))),(11,(.c (.ro false 2 (l_.map eRaw)))),(0,(.c (.ro false 2 (l_.map eRaw))))]),e0,0⟩
abbrev Zev (l_:(List Raw)) (v13:Int) (x_:TSPath) (F_:Int→Option Bool) (o:Bool) (R_:St→Prop):Prop:=∀(v57:Int),F_ v57=some o→∀ s,Weak 0 s ⟨(ue [(57,(I v57)),(56,(I (x_.Joins.length:Int))),(55,(.c (.ro false 1 (x_.Joins.map (eK .u8))))),(13,(I v13)),(12,(I (l_.length:Int))),(11,(.c (.ro false 2 (l_.map eRaw)))),(0,(.c (.ro false 2 (l_.map eRaw))))]),e0,0⟩→R_ s
noncomputable def Z7 (x_:TSPath) (l_:(List Raw)) (v13:Int) (K6_:Unit→Option Bool):Nat→Int→Option Bool
 | 0,_=>none
 | k+1,v57 =>
  if decide (v57<(x_.Joins.length:Int)) then
   (at? x_.Joins v57).bind fun x_3 =>
   (Z2r [32,62,43,126] x_3).bind fun r_2 =>
   if decide (r_2<0) then
    some false
   else
    (Z7 x_ l_ v13 K6_ k) (wi (v57+1))
  else
   K6_ ()
theorem Zew {mL:Int}{Q:AExit→St→Prop}{x_:TSPath}{l_:(List Raw)}{v13:Int}{K6_:Unit→Option Bool}{k:Nat}{v57:Int}{o:Bool}(h:Z7 x_ l_ v13 K6_ k v57=some o)
  (hK6:Zeu l_ v13 K6_ o (Q (.exit 6)))
  (hr:∀ s,Ends a12.results 0 (Z4p o) .ret s→Q .ret s) :
  Sv Tryz.prog (GG mL) 0 (.loop a12_c2) Q ⟨(ue [(57,(I v57)),(56,(I (x_.Joins.length:Int))),(55,(.c (.ro false 1 (x_.Joins.map (eK .u8))))),(13,(I v13)),(12,(I (l_.length:Int))),(11,(.c (.ro false 2 (l_.map eRaw)))),(0,(.c (.ro false 2 (l_.map eRaw))))]),e0,0⟩:=by
 refine Sv.loop (I:=Zad l_ v13 x_ (Z7 x_ l_ v13 K6_) o) (fun k s hI=>?_) ⟨v57,h,rfl⟩
 clear h
 clear v57
 obtain ⟨v57,h,rfl⟩:=hI
 cases k with
 | zero=>cases h
 | succ k =>
 rw [Z7] at h
 have hself:Zev l_ v13 x_ (Z7 x_ l_ v13 K6_ k) o (rnd 0 (Zad l_ v13 x_ (Z7 x_ l_ v13 K6_) o) k Q):=fun v57 h s hw=>⟨_,k,hw,Nat.lt_succ_self k,v57,h,rfl⟩
 refine ssr<|un1 (v:=(B (decide (v57<(x_.Joins.length:Int))))) rfl<|dnil<|Sv.seq ?_
 refine Sv.cnd rfl h (fun h=>?_) fun h=>?_
 ·refine Sv.skip<|Sv.seq<|Sv.block<|ssr ?_
  obtain ⟨x_3,hx4,h⟩:=bnd h
  refine un1 (v:=(.c (.rop [.val (.int .u8 x_3)]))) (s_iaddr (e:=(eK .u8)) (xs:=x_.Joins) rfl rfl hx4)<|un1 (v:=(.c (.val (.int .u8 x_3)))) rfl<|un1 rfl<|dnil<|ssr<|un1 rfl ?_
  obtain ⟨r_2,hr3,h⟩:=bnd h
  refine un<|ac_pure (Za9 hr3) rfl rfl rfl<|un1 (v:=(B (decide (r_2<0)))) rfl<|dnil ?_
  refine Sv.cnd rfl h (fun h=>?_) fun h=>?_
  ·refine ssr<|un1 rfl<|dnil<|Sv.ret ?_
   exact hr _ (rt0 h rfl rfl ⟨rfl,rfl,rfl⟩)
  ·refine Sv.skip<|srg<|un1 (v:=(I (wi (v57+1)))) rfl<|un1 rfl<|dnil ?_
   exact hself (wi (v57+1)) h _ (wcn [] rfl (.cf rfl rfl (.cf rfl rfl (.cf rfl rfl (.cf rfl rfl (.cf rfl rfl (.cf rfl rfl (.cf rfl rfl .nil))))))) .nil)
 ·refine Sv.exit ?_
  exact hK6 () h _ (wcn [] rfl (.cf rfl rfl (.cf rfl rfl (.cf rfl rfl (.cf rfl rfl .nil)))) .nil)
abbrev Zex (l_:(List Raw)) (F_:Unit→Option Bool) (o:Bool) (R_:St→Prop):Prop:=∀(_:Unit),F_ ()=some o→∀ s,Weak 0 s ⟨(upd e0 0 (some (.c (.ro false 2 (l_.map eRaw))))),e0,0⟩→R_ s
abbrev Zae (l_:(List Raw)) (F_:Nat→Int→Option Bool) (o:Bool):Nat→St→Prop:=fun k s=>∃(v13:Int),F_ k v13=some o∧s=⟨(ue [(13,(I v13)),(12,(I (l_.length:Int))),(11,(.c (.ro false 2 (l_.map eRaw)))),(0,(.c (.ro false 2 (l_.map eRaw))))]),e0,0⟩
abbrev Zey (l_:(List Raw)) (F_:Int→Option Bool) (o:Bool) (R_:St→Prop):Prop:=∀(v13:Int),F_ v13=some o→∀ s,Weak 0 s ⟨(ue [(13,(I v13)),(12,(I (l_.length:Int))),(11,(.c (.ro false 2 (l_.map eRaw)))),(0,(.c (.ro false 2 (l_.map eRaw))))]),e0,0⟩→R_ s
noncomputable def Z4 (l_:(List Raw)) (recf:(List Raw)→Option Bool) (K0_:Unit→Option Bool):Nat→Int→Option Bool
 | 0,_=>none
 | k+1,v13 =>
  if decide (v13<(l_.length:Int)) then
   (at? l_ v13).bind fun r_ =>
   (Z3 r_.c).bind fun x_ =>
   if ((decide ((x_.Steps.length:Int)=0))||(!decide ((x_.Joins.length:Int)=(wi ((x_.Steps.length:Int) - 1))))) then
    some false
   else
    limF fun kk2=>Z5 x_ recf l_ v13 (fun (_:Unit) => 
      limF fun kk1=>Z7 x_ l_ v13 (fun (_:Unit) => 
        (Z4 l_ recf K0_ k) (wi (v13+1))) kk1 0) kk2 0
  else
   K0_ ()
theorem Zez {mL:Int}{Q:AExit→St→Prop}{l_:(List Raw)}{recf:(List Raw)→Option Bool}{K0_:Unit→Option Bool}{k:Nat}{v13:Int}{o:Bool}(h:Z4 l_ recf K0_ k v13=some o)
  (hK0:Zex l_ K0_ o (Q (.exit 0)))
  (hr:∀ s,Ends a12.results 0 (Z4p o) .ret s→Q .ret s)
  (hrec:Z29 mL recf) :
  Sv Tryz.prog (GG mL) 0 (.loop a12_c3) Q ⟨(ue [(13,(I v13)),(12,(I (l_.length:Int))),(11,(.c (.ro false 2 (l_.map eRaw)))),(0,(.c (.ro false 2 (l_.map eRaw))))]),e0,0⟩:=by
 refine Sv.loop (I:=Zae l_ (Z4 l_ recf K0_) o) (fun k s hI=>?_) ⟨v13,h,rfl⟩
 clear h
 clear v13
 obtain ⟨v13,h,rfl⟩:=hI
 cases k with
 | zero=>cases h
 | succ k =>
 rw [Z4] at h
 have hself:Zey l_ (Z4 l_ recf K0_ k) o (rnd 0 (Zae l_ (Z4 l_ recf K0_) o) k Q):=fun v13 h s hw=>⟨_,k,hw,Nat.lt_succ_self k,v13,h,rfl⟩
 refine ssr<|un1 (v:=(B (decide (v13<(l_.length:Int))))) rfl<|dnil<|Sv.seq ?_
 refine Sv.cnd rfl h (fun h=>?_) fun h=>?_
 ·refine Sv.skip<|Sv.seq<|Sv.block<|ssr ?_
  obtain ⟨r_,hr1,h⟩:=bnd h
  obtain ⟨x_,hd,h⟩:=bnd h
  have hx1:at? l_ v13=some (⟨e_TSPath x_,rfl⟩:Raw):=by rw [hr1,raw_eq rfl (Z18 hd)]
  refine un1 (v:=(.c (.rop (e_TSPath x_)))) (s_iaddr (e:=eRaw) (xs:=l_) rfl rfl hx1)<|un1 (v:=(.agg (e_TSPath x_))) rfl<|un<|a2v (v:=(.c (.ref 0 2 0 0))) (h' := upd _ 0 (some (.cells 2 [[.ro true 1 [],.ro true 1 []]]))) (n' := 1) rfl rfl hcs<|un<|a2n (h' := upd _ 0 (some (.cells 2 [(e_TSPath x_)]))) (n' := 1) rfl rfl hcs<|dnil<|Sv.seq<|ssr<|un1 (v:=(.c (.ref 0 2 0 0))) rfl<|un1 (v:=(.c (.ro false 1 (x_.Steps.map (eSl 7 e_TSTest))))) rfl<|un1 (v:=(I (x_.Steps.length:Int))) (s_len (e:=(eSl 7 e_TSTest)) (xs:=x_.Steps) rfl)<|un1 (v:=(B (decide ((x_.Steps.length:Int)=0)))) rfl<|un1 rfl ?_
  refine gjoin 9 (d:=30) (v:=(B ((decide ((x_.Steps.length:Int)=0))||(!decide ((x_.Joins.length:Int)=(wi ((x_.Steps.length:Int) - 1))))))) (fun X hX=>?_) ?_
  ·refine split2 (fun hc2=>?_) (fun hc2=>?_)
   ·repeat (first | refine gu rfl ?_ | refine gs rfl rfl ?_)
    refine un1 (v:=(B true)) rfl<|dnil ?_
    exact hX _ (.putEq (by rw [hc2]; rfl) (by repeat (first | exact .putEq (by rw [hc2]) (.refl _) | refine .skp ?_ rfl)))
   ·refine gt rfl<|a1 (v:=(.c (.ref 0 2 0 1))) rfl<|gt rfl<|a1 (v:=(.c (.ro false 1 (x_.Joins.map (eK .u8))))) rfl<|gt rfl<|a1 (v:=(I (x_.Joins.length:Int))) (s_len (e:=(eK .u8)) (xs:=x_.Joins) rfl)<|gt rfl<|a1 (v:=(.c (.ref 0 2 0 0))) rfl<|gt rfl<|a1 (v:=(.c (.ro false 1 (x_.Steps.map (eSl 7 e_TSTest))))) rfl<|gt rfl<|a1 (v:=(I (x_.Steps.length:Int))) (s_len (e:=(eSl 7 e_TSTest)) (xs:=x_.Steps) rfl)<|gt rfl<|a1 (v:=(I (wi ((x_.Steps.length:Int) - 1)))) rfl<|gt rfl<|a1 (v:=(B (!decide ((x_.Joins.length:Int)=(wi ((x_.Steps.length:Int) - 1)))))) rfl<|un1 (v:=(B (!decide ((x_.Joins.length:Int)=(wi ((x_.Steps.length:Int) - 1)))))) rfl<|dnil ?_
    exact hX _ (.putEq (by rw [hc2]; rfl) (by repeat (first | exact .putEq (by rw [hc2]) (.refl _) | refine .skp ?_ rfl)))
  refine dnil ?_
  refine Sv.cnd rfl h (fun h=>?_) fun h=>?_
  ·refine ssr<|un1 rfl<|dnil<|Sv.ret ?_
   exact hr _ (rt0 h rfl rfl ⟨rfl,rfl,rfl⟩)
  ·refine Sv.skip<|Sv.seq<|ssr<|un1 (v:=(.c (.ref 0 2 0 0))) rfl<|un1 (v:=(.c (.ro false 1 (x_.Steps.map (eSl 7 e_TSTest))))) rfl<|un1 (v:=(I (x_.Steps.length:Int))) (s_len (e:=(eSl 7 e_TSTest)) (xs:=x_.Steps) rfl)<|un1 rfl<|dnil<|Sv.block ?_
   obtain ⟨kk2,h⟩:=limF_some h
   refine Sv.weak (wcn [0] rfl (.cf rfl rfl (.cf rfl rfl (.cf rfl rfl (.cf rfl rfl (.cf rfl rfl (.cf rfl rfl (.cr rfl rfl rfl (.cf rfl rfl .nil)))))))) (.box (by decide) rfl (blkAs_cells (.sm rfl (.sm rfl .nil))) .nil)) (Zet h ?_ hr hrec)
   ·intro _ h _ hw2
    refine Sv.weak hw2<|ssr<|un1 (v:=(.c (.ref 0 2 0 1))) rfl<|un1 (v:=(.c (.ro false 1 (x_.Joins.map (eK .u8))))) rfl<|un1 (v:=(I (x_.Joins.length:Int))) (s_len (e:=(eK .u8)) (xs:=x_.Joins) rfl)<|un1 rfl<|dnil<|Sv.block ?_
    obtain ⟨kk1,h⟩:=limF_some h
    refine Sv.weak (wcn [] rfl (.cf rfl rfl (.cf rfl rfl (.cf rfl rfl (.cf rfl rfl (.cf rfl rfl (.cf rfl rfl (.cf rfl rfl .nil))))))) .nil) (Zew h ?_ hr)
    ·intro _ h _ hw3
     refine Sv.weak hw3<|srg<|un1 (v:=(I (wi (v13+1)))) rfl<|un1 rfl<|dnil ?_
     exact hself (wi (v13+1)) h _ (wcn [] rfl (.cf rfl rfl (.cf rfl rfl (.cf rfl rfl (.cf rfl rfl .nil)))) .nil)
 ·refine Sv.exit ?_
  exact hK0 () h _ (wcn [] rfl (.cf rfl rfl .nil) .nil)
noncomputable def Zl:Nat→(List Raw)→Option Bool
 | 0,_=>none
 | k+1,l_ =>
  limF fun kk3=>Z4 l_ (Zl k) (fun (_:Unit) => 
    some (decide (0<(l_.length:Int)))) kk3 0
noncomputable def Z64 (l_:(List Raw)):Option Bool :=
 limF fun kr=>Zl kr l_
theorem Zf0 {mL:Int}(k:Nat):Z29 mL (Zl k):=by
 induction k with
 | zero=>intro l_ r h; cases h
 | succ k hrec =>
 intro l_ r h
 refine acalls_of_sv hmix c12 (R:=Z4p r) ?_
 rw [Zl] at h
 refine ssr<|un1 rfl<|dnil<|Sv.seq<|ssr<|un1 rfl<|un1 (v:=(I (l_.length:Int))) (s_len (e:=eRaw) (xs:=l_) rfl)<|un1 rfl<|dnil<|Sv.block ?_
 obtain ⟨kk3,h⟩:=limF_some h
 refine Sv.weak (wcn [] rfl (.cf rfl rfl (.cf rfl rfl (.cf rfl rfl (.cf rfl rfl .nil)))) .nil) (Zez h ?_ (fun s hs=>hs) hrec)
 ·intro _ h _ hw4
  refine Sv.weak hw4<|ssr<|un1 rfl<|un1 (v:=(I (l_.length:Int))) (s_len (e:=eRaw) (xs:=l_) rfl)<|un1 (v:=(B (decide (0<(l_.length:Int))))) rfl<|un1 rfl<|dnil<|Sv.ret ?_
  exact rt0 h rfl rfl ⟨rfl,rfl,rfl⟩
theorem Zf1 {mL:Int}{l_:(List Raw)}{r:Bool}(h:Z64 l_=some r):CPure Tryz.prog (GG mL) 12 [(.c (.ro false 2 (l_.map eRaw)))] (B r):=by
 unfold Z64 at h
 obtain ⟨k,h⟩:=limF_some h
 exact Zf0 k l_  r h
def a6:AFunc:=⟨1,[(.tmp 2)],(sr [(oP 2 (.mov (kI 0)))]
 (.seq (sr [(mV 6 0),(oP 7 (.call 11 [(.tmp 6),(kI 0)])),(mV 5 7),(oP 8 (.ext (.tmp 5) 0)),(oP 9 (.ext (.tmp 5) 1)),(mV 3 8),(mV 4 9)]
 (sr [(mV 10 4),(oP 11 (.un .not (.tmp 10)))]
 (.cond (.tmp 11) (sr [(oP 2 (.mov (kI 2)))]
 .ret) .skip)))
 (.seq (sr [(mV 12 0),(oP 13 (.call 12 [(.tmp 12)])),(oP 14 (.un .not (.tmp 13)))]
 (.cond (.tmp 14) (sr [(oP 2 (.mov (kI 3)))]
 .ret) .skip))
 (sr [(oP 2 (.mov (kI 0)))]
 .ret))))⟩
theorem c6:compFunc Tryz.prog 6=some a6:=by kernel_rfl
def Zf2 (r:Int):AV→Heap→Nat→Prop:=fun v h' n' => v=(I r)∧(h' = e0)∧n' = 0
noncomputable def Z3q (l_:(List Raw)):Option Int :=
 (Z63 l_ 0).bind fun r_ =>
 if (!r_.2) then
  some 2
 else
  (Z64 l_).bind fun r_1 =>
  if (!r_1) then
   some 3
  else
   some 0
theorem Zaf {mL:Int}{l_:(List Raw)}{r:Int}(h:Z3q l_=some r):CPure Tryz.prog (GG mL) 6 [(.c (.ro false 2 (l_.map eRaw)))] (I r):=by
 refine acalls_of_sv hmix c6 (R:=Zf2 r) ?_
 unfold Z3q at h
 refine ssr<|un1 rfl<|dnil<|Sv.seq<|ssr<|un1 rfl ?_
 obtain ⟨r_,hr1,h⟩:=bnd h
 refine un<|ac_pure (Zef hr1) rfl rfl rfl<|un1 rfl<|un1 (v:=(I r_.1)) rfl<|un1 (v:=(B r_.2)) rfl<|un1 rfl<|un1 rfl<|dnil<|ssr<|un1 rfl<|un1 (v:=(B (!r_.2))) rfl<|dnil ?_
 refine Sv.cnd rfl h (fun h=>?_) fun h=>?_
 ·refine ssr<|un1 rfl<|dnil<|Sv.ret ?_
  exact rt0 h rfl rfl ⟨rfl,rfl,rfl⟩
 ·refine Sv.skip<|Sv.seq<|ssr<|un1 rfl ?_
  obtain ⟨r_1,hr2,h⟩:=bnd h
  refine un<|ac_pure (Zf1 hr2) rfl rfl rfl<|un1 (v:=(B (!r_1))) rfl<|dnil ?_
  refine Sv.cnd rfl h (fun h=>?_) fun h=>?_
  ·refine ssr<|un1 rfl<|dnil<|Sv.ret ?_
   exact rt0 h rfl rfl ⟨rfl,rfl,rfl⟩
  ·refine Sv.skip<|ssr<|un1 rfl<|dnil<|Sv.ret ?_
   exact rt0 h rfl rfl ⟨rfl,rfl,rfl⟩
def a10:AFunc:=⟨1,[(.cell false 1 2),(.cell false 1 3)],(sr [(oP 2 (.box (.const (.c (.ro true 2 []))))),(oP 3 (.box (kI 0)))]
 (.seq (sr [(mV 5 0),(oP 6 (.lenS (.tmp 5))),(oP 7 (.bin .gtr (.tmp 6) (kI 400)))]
 (.cond (.tmp 7) (sr [(oN (.store 1 (.tmp 2) (.const (.c (.ro true 2 []))))),(oN (.store 1 (.tmp 3) (kI 2)))]
 .ret) .skip))
 (sr [(oP 8 (.mkfn (.func 17) [] [(.tmp 2),(.tmp 3)])),⟨none,.bad,none⟩]
 (sr [(mV 9 0),(oP 10 (.call 18 [(.tmp 9)])),(oP 11 (.build [(.ro true 4 [])] [(0,(1,(.tmp 10)))])),(oP 12 (.box (.tmp 11))),(mV 4 12)]
 (sr [(mV 13 4),(oP 14 (.call 19 [(.tmp 13),(.const (.c (.str [])))])),(oN (.store 1 (.tmp 2) (.tmp 14)))]
 (.seq (sr [(oP 15 (.load false 1 (.tmp 2))),(oP 16 (.call 6 [(.tmp 15)])),(oP 17 (.bin .neq (.tmp 16) (kI 0)))]
 (.cond (.tmp 17) (sr [(oN (.store 1 (.tmp 2) (.const (.c (.ro true 2 []))))),(oN (.store 1 (.tmp 3) (kI 4)))]
 .ret) .skip))
 (sr [(oP 18 (.load false 1 (.tmp 2))),(oN (.store 1 (.tmp 2) (.tmp 18))),(oN (.store 1 (.tmp 3) (kI 0)))]
 .ret)))))))⟩
theorem c10:compFunc Tryz.prog 10=some a10:=by kernel_rfl
theorem Zf3 (x0 x1:Value):Idle Tryz.prog { target:=.fn (.func 17) #[x0,x1],args:=#[] }:=by
 intro w
 refine ⟨.func 17,#[x0,x1],17,#[x0,x1],rfl,?_,?_⟩
 ·simp [invoke,go_sem]
 ·refine callsD_of_wpS Tryz.func17 rfl fun c₀ cs hu=>?_
  apply wpS_seq
  apply wpS_region
  simp [wpOpsS,go_sem,recoverD,hu,Tryz.ntmps17,Exit.thenS,Array.replicate]
  apply wpS_seq
  apply wpS_region
  simp [wpOpsS,go_sem,Exit.thenS]
  refine wpS_cond (t:=false) (by simp [Act.eval]) ?_
  simp only [Bool.false_eq_true,if_false]
  refine wpS_of_wp<|wp_skip ?_
  cases c₀
  simp_all [bodyPostS,results,Tryz.results17]
theorem Zf4:∀ fn c0 c1 c2 c3,Tryz.prog.funcs[10]? = some fn→fn.body=some (.seq c0 (.seq c1 (.seq c2 c3)))→∃ id ops,c2 = .region id ops false∧Puts Tryz.prog ops 8 fn.ntmps:=by
 intro fn c0 c1 c2 c3 hf hb
 rw [Tryz.func10] at hf
 cases hf
 simp only [Tryz.f10,Option.some.injEq,Code.seq.injEq] at hb
 replace hb:=hb.2.2.1
 refine ⟨_,_,hb.symm,?_⟩
 intro a w hs hd
 rw [Tryz.ntmps10] at hs
 have hmf:∀(fn:Fn) (first cap:Array Value) (w:World),(Instr.makeFunc fn first cap).run Tryz.prog w = .ok (.func fn first cap) w:=fun _ _ _ _=>rfl
 refine ⟨_,.func (.func 17) #[] #[a.eval (.tmp 2),a.eval (.tmp 3)],Zf3 (a.eval (.tmp 2)) (a.eval (.tmp 3)),fun Q hq=>?_⟩
 have h9:8<a.tmps.size:=by omega
 simp [wpOps,go_sem,hd,h9,hmf]
 exact .inl (.inl (by simpa [Act.put,Act.eval] using hq))
def Zag (r:((List Raw)×Int)):AV→Heap→Nat→Prop:=fun v h' n' => ∃ z0:Bool,(z0=true→r.1=[])∧v=(.tup [(lstV z0 0 2 r.1.length),(I r.2)])∧(h' = (upd e0 0 (lstB z0 2 (r.1.map eRaw))))∧n' = 1
noncomputable def Z7l (s_:Tx):Option ((List Raw)×Int) :=
 if decide (400<(s_.length:Int)) then
  some (([]:List Raw),2)
 else
  (Z3i s_).bind fun r_ =>
  (Z7i (⟨r_⟩:Treader) []).bind fun r_1 =>
  (Z3q r_1.1).bind fun r_2 =>
  if (!decide (r_2=0)) then
   some (([]:List Raw),4)
  else
   some (r_1.1,0)
theorem Zf5 {mL:Int}{s_:Tx}{r:((List Raw)×Int)}(h:Z7l s_=some r):ACalls Tryz.prog (GG mL) 10 [(S s_)] e0 0 (Zag r):=by
 refine acalls_of_dfr hmix c10 (R:=Zag r) (t:=8) rfl Zf4 ?_
 unfold Z7l at h
 refine srg<|un<|a2v (v:=(.c (.ref 0 1 0 0))) (h' := upd _ 0 (some (.cells 1 [[.ro true 2 []]]))) (n' := 1) rfl rfl hcs<|un<|a2v (v:=(.c (.ref 1 1 0 0))) (h' := upd _ 1 (some (.cells 1 [[cI 0]]))) (n' := 2) rfl rfl hcs<|dnil<|ssr<|un1 rfl<|un1 (v:=(I (s_.length:Int))) rfl<|un1 (v:=(B (decide (400<(s_.length:Int))))) rfl<|dnil ?_
 refine Sv.cnd rfl h (fun h=>?_) fun h=>?_
 ·refine ssr<|un<|a2n (h' := upd _ 0 (some (.cells 1 [[.ro true 2 []]]))) (n' := 2) rfl rfl hcs<|un<|a2n (h' := upd _ 1 (some (.cells 1 [[cI 2]]))) (n' := 2) rfl rfl hcs<|dnil<|Sv.ret ?_
  replace h:=Option.some.inj h
  subst h
  exact ⟨_,.refl _,_,rfl,⟨upd e0 0 (some (.tup [(lstV true 0 2 ([]:List Raw).length),(I 2)])),(upd e0 0 (lstB true 2 (([]:List Raw).map eRaw))),1⟩,(.tup [(lstV true 0 2 ([]:List Raw).length),(I 2)]),weak_canon2 [1000] [0] (by decide) (by decide) nlz (.cons (by decide) .nil) (.cons rfl (avAs_tup (.cons (.c (.same rfl)) (.cons (avAs_free rfl) .nil))) .nil) (.non (by decide) .nil),rfl,true,(fun _=>rfl),rfl,rfl,rfl⟩
 ·refine Sv.skip<|And.intro rfl<|ssr<|un1 rfl ?_
  obtain ⟨r_,hr1,h⟩:=bnd h
  refine un<|ac_gen (bs:=[]) («as»:=[(S s_)]) (h2:=_) (h1:=e0) (Z99 hr1) rfl (.cons (avAs_free rfl) .nil) (hsub_refl _) (.nil _) (fun _=>rfl) (by decide) (by decide) (.cons (avAs_free rfl) .nil) .nil ?_
  rintro _ _ _ hn ⟨z_,hz_,rfl,rfl,rfl⟩
  refine ⟨.inl rfl,(upd (rem [] _) 2 (lstB z_ 4 (r_.map e_TSToken))),fun hbd=>(m3_cons (m3_row rfl (fr_map fun _=>rfl)) (m3_rem (in_nil _) (.cons (by decide) .nil) hbd)),(lstV z_ 2 4 r_.length),3,(by cases z_ <;> rfl),rfl,?_⟩
  refine un1 (v:=(.agg [lstC z_ 2 4 r_.length])) rfl<|dweak (show Weak 0 _ ⟨(ue [(11,(.agg [.ro false 4 (r_.map e_TSToken)])),(10,(.c (.ro false 4 (r_.map e_TSToken)))),(9,(S s_)),(7,(B (decide (400<(s_.length:Int))))),(6,(I (s_.length:Int))),(5,(S s_)),(3,(.c (.ref 1 1 0 0))),(2,(.c (.ref 0 1 0 0))),(0,(S s_))]),(upd (upd e0 0 (some (.cells 1 [[.ro true 2 []]]))) 1 (some (.cells 1 [[cI 0]]))),3⟩ from (wcn [0,1,1002] rfl (.cons rfl (avAs_agg (.cons (lstC_ro (es:=List.map e_TSToken r_) rfl (List.length_map e_TSToken).symm (map_nil_of hz_) (fun b x hx=>not_in (bs:=[0,1,1002]) rfl b (((.cons (by decide) (.cons (by decide) .nil)):HLt _ _) b x hx)) (fr_map fun _=>rfl)) .nil)) (.cons rfl (.c (lstC_ro (es:=List.map e_TSToken r_) rfl (List.length_map e_TSToken).symm (map_nil_of hz_) (fun b x hx=>not_in (bs:=[0,1,1002]) rfl b (((.cons (by decide) (.cons (by decide) .nil)):HLt _ _) b x hx)) (fr_map fun _=>rfl))) (.cf rfl rfl (.cf rfl rfl (.cf rfl rfl (.cf rfl rfl (.cr rfl rfl rfl (.cr rfl rfl rfl (.cf rfl rfl .nil))))))))) (.box (by decide) rfl (blkAs_cells (.sm rfl .nil)) (.box (by decide) rfl (blkAs_cells (.sm rfl .nil)) .nil))))<|un<|a2v (v:=(.c (.ref 3 1 0 0))) (h' := upd _ 3 (some (.cells 1 [[.ro false 4 (r_.map e_TSToken)]]))) (n' := 4) rfl rfl hcs<|un1 rfl<|dnil<|ssr<|un1 rfl ?_
  obtain ⟨r_1,hr2,h⟩:=bnd h
  refine un<|ac_gen (bs:=[3]) («as»:=[(.c (.ref 3 1 0 0)),(S [])]) (h2:=_) (h1:=(upd e0 3 (some (.cells 1 [[.ro false 4 (r_.map e_TSToken)]])))) (Ze6 hr2) rfl (.cons (.c (.ref rfl (by decide))) (.cons (avAs_free rfl) .nil)) (hsub_refl _) (.cons rfl (.nil _)) hcs (by decide) (by decide) (.cons (.c (.ref rfl (by decide))) (.cons (avAs_free rfl) .nil)) (.box (by decide) rfl (blkAs_cells (.sm rfl .nil)) .nil) ?_
  rintro _ _ _ hn ⟨z_1,hz_1,rfl,rfl,rfl⟩
  refine ⟨.inl rfl,(upd (upd (rem [3] _) 3 (some (.cells 1 [[.ro false 4 (r_1.2.f_l.map e_TSToken)]]))) 4 (lstB z_1 2 (r_1.1.map eRaw))),fun hbd=>(m3_cons (m3_row rfl (fr_map fr_raw)) (m3_cons (m3_box rfl rfl) (m3_rem (in_cons (by decide) (in_nil _)) (.cons (by decide) (.cons (by decide) .nil)) hbd))),(lstV z_1 4 2 r_1.1.length),5,(by cases z_1 <;> rfl),rfl,?_⟩
  refine un<|a2n (h' := upd _ 0 (some (.cells 1 [[lstC z_1 4 2 r_1.1.length]]))) (n' := 5) rfl rfl hcs<|dnil<|Sv.seq<|ssr<|un1 (v:=(lstV z_1 4 2 r_1.1.length)) rfl ?_
  obtain ⟨r_2,hr3,h⟩:=bnd h
  refine un<|ac_lend (h2:=(upd _ 4 none)) (Zaf hr3) rfl (.cons (.c (lstC_ro (es:=List.map eRaw r_1.1) rfl (List.length_map eRaw).symm (map_nil_of hz_1) (gone rfl) (fr_map fr_raw))) .nil) (hsub_none (hsub_refl _)) rfl rfl (.inr rfl)<|un1 (v:=(B (!decide (r_2=0)))) rfl<|dnil ?_
  refine Sv.cnd rfl h (fun h=>?_) fun h=>?_
  ·refine ssr<|un<|a2n (h' := upd _ 0 (some (.cells 1 [[.ro true 2 []]]))) (n' := 5) rfl rfl hcs<|un<|a2n (h' := upd _ 1 (some (.cells 1 [[cI 4]]))) (n' := 5) rfl rfl hcs<|dnil<|Sv.ret ?_
   replace h:=Option.some.inj h
   subst h
   exact ⟨_,.refl _,_,rfl,⟨upd e0 0 (some (.tup [(lstV true 0 2 ([]:List Raw).length),(I 4)])),(upd e0 0 (lstB true 2 (([]:List Raw).map eRaw))),1⟩,(.tup [(lstV true 0 2 ([]:List Raw).length),(I 4)]),weak_canon2 [1000] [0] (by decide) (by decide) nlz (.cons (by decide) .nil) (.cons rfl (avAs_tup (.cons (.c (.same rfl)) (.cons (avAs_free rfl) .nil))) .nil) (.non (by decide) .nil),rfl,true,(fun _=>rfl),rfl,rfl,rfl⟩
  ·refine Sv.skip<|ssr<|un1 (v:=(lstV z_1 4 2 r_1.1.length)) rfl<|un<|a2n (h' := upd _ 0 (some (.cells 1 [[lstC z_1 4 2 r_1.1.length]]))) (n' := 5) rfl rfl hcs<|un<|a2n (h' := upd _ 1 (some (.cells 1 [[cI 0]]))) (n' := 5) rfl rfl hcs<|dnil<|Sv.ret ?_
   replace h:=Option.some.inj h
   subst h
   exact ⟨_,.refl _,_,rfl,⟨upd e0 0 (some (.tup [(lstV z_1 0 2 r_1.1.length),(I 0)])),(upd e0 0 (lstB z_1 2 (r_1.1.map eRaw))),1⟩,(.tup [(lstV z_1 0 2 r_1.1.length),(I 0)]),weak_canon2 [4] [0] (by decide) (by decide) nlz (.cons (by decide) .nil) (.cons rfl (avAs_tup (.cons (.c (lsr rfl rfl)) (.cons (avAs_free rfl) .nil))) .nil) (.row (by decide) rfl (fr_map fr_raw) .nil),rfl,z_1,hz_1,rfl,rfl,rfl⟩
def a5_c0:ACode:=.ret
def a5:AFunc:=⟨0,[(.tmp 0)],(sr [(oP 0 (.mov kF))]
 (sr [(oP 4 (.call 10 [(.const (.c (.str [97,32,62,32,46,98])))])),(mV 3 4),(oP 5 (.ext (.tmp 3) 0)),(oP 6 (.ext (.tmp 3) 1)),(mV 1 5),(mV 2 6)]
 (sr [(mV 7 2),(oP 8 (.bin .eql (.tmp 7) (kI 0))),(mV 9 8),⟨(some 10),(.mov (.tmp 1)),(some (9,true))⟩,⟨(some 11),(.len (.tmp 10)),(some (9,true))⟩,⟨(some 12),(.bin .eql (.tmp 11) (kI 1)),(some (9,true))⟩,(oP 13 (.pick (.tmp 9) (.tmp 12) kF)),(mV 14 13),⟨(some 15),(.mov (.tmp 1)),(some (14,true))⟩,⟨(some 16),(.iaddr 2 (.tmp 15) (kI 0)),(some (14,true))⟩,⟨(some 17),(.faddr 0 (.tmp 16)),(some (14,true))⟩,⟨(some 18),(.load false 1 (.tmp 17)),(some (14,true))⟩,⟨(some 19),(.len (.tmp 18)),(some (14,true))⟩,⟨(some 20),(.bin .eql (.tmp 19) (kI 2)),(some (14,true))⟩,(oP 21 (.pick (.tmp 14) (.tmp 20) kF)),(mV 22 21),⟨(some 23),(.mov (.tmp 1)),(some (22,true))⟩,⟨(some 24),(.iaddr 2 (.tmp 23) (kI 0)),(some (22,true))⟩,⟨(some 25),(.faddr 1 (.tmp 24)),(some (22,true))⟩,⟨(some 26),(.load false 1 (.tmp 25)),(some (22,true))⟩,⟨(some 27),(.ofBytes (.tmp 26)),(some (22,true))⟩,⟨(some 28),(.bin .eql (.tmp 27) (.const (.c (.str [62])))),(some (22,true))⟩,(oP 29 (.pick (.tmp 22) (.tmp 28) kF)),(mV 0 29)]
 a5_c0)))⟩
theorem c5:compFunc Tryz.prog 5=some a5:=by kernel_rfl
def Zah (r:Bool):AV→Heap→Nat→Prop:=fun v h' n' => v=(B r)∧(h' = e0)∧n' = 0
noncomputable def Z4q (v0:Bool):Option Bool :=
 some v0
theorem Z7m {mL:Int}{v0:Bool}{o:Bool}(h:Z4q v0=some o) :
  Sv Tryz.prog (GG mL) 0 a5_c0 (Ends a5.results 0 (Zah o)) ⟨(upd e0 0 (some (B v0))),e0,0⟩:=by
 unfold Z4q at h
 refine Sv.ret ?_
 exact rt0 h rfl rfl ⟨rfl,rfl,rfl⟩
noncomputable def Z65:Option Bool :=
 (Z7l [97,32,62,32,46,98]).bind fun r_ =>
 if ((decide (r_.2=0))&&(decide ((r_.1.length:Int)=1))) then
  (at? r_.1 0).bind fun r_1 =>
  (Z3 r_1.c).bind fun x_ =>
  if decide ((x_.Steps.length:Int)=2) then
   (at? r_.1 0).bind fun r_2 =>
   (Z3 r_2.c).bind fun x_1 =>
   Z4q (decide ((byts x_1.Joins)=[62]))
  else
   Z4q false
 else
  Z4q false
theorem Zf6 {mL:Int}{r:Bool}(h:Z65=some r):CPure Tryz.prog (GG mL) 5 [] (B r):=by
 refine acalls_of_sv hmix c5 (R:=Zah r) ?_
 unfold Z65 at h
 refine ssr<|un1 rfl<|dnil<|ssr ?_
 obtain ⟨r_,hr1,h⟩:=bnd h
 refine un<|ac_gen (bs:=[]) («as»:=[(S [97,32,62,32,46,98])]) (h2:=_) (h1:=e0) (Zf5 hr1) rfl (.cons (avAs_free rfl) .nil) (hsub_refl _) (.nil _) (fun _=>rfl) (by decide) (by decide) (.cons (avAs_free rfl) .nil) .nil ?_
 rintro _ _ _ hn ⟨z_,hz_,rfl,rfl,rfl⟩
 refine ⟨.inl rfl,(upd (rem [] _) 0 (lstB z_ 2 (r_.1.map eRaw))),fun hbd=>(m3_cons (m3_row rfl (fr_map fr_raw)) (m3_rem (in_nil _) (.cons (by decide) .nil) hbd)),(.tup [(lstV z_ 0 2 r_.1.length),(I r_.2)]),1,(by cases z_ <;> rfl),rfl,?_⟩
 refine un1 rfl<|un1 (v:=(lstV z_ 0 2 r_.1.length)) rfl<|un1 (v:=(I r_.2)) rfl<|un1 rfl<|un1 rfl<|dnil<|ssr<|un1 rfl<|un1 (v:=(B (decide (r_.2=0)))) rfl<|un1 rfl ?_
 refine gjoin 4 (d:=13) (v:=(B ((decide (r_.2=0))&&(decide ((r_.1.length:Int)=1))))) (fun X hX=>?_) ?_
 ·refine split2 (fun hc1=>?_) (fun hc1=>?_)
  ·refine gt rfl<|a1 rfl<|gt rfl<|a1 (v:=(I (r_.1.length:Int))) (s_lenL rfl (len_nil_of hz_))<|gt rfl<|a1 (v:=(B (decide ((r_.1.length:Int)=1)))) rfl<|un1 (v:=(B (decide ((r_.1.length:Int)=1)))) rfl<|dnil ?_
   exact hX _ (.putEq (by rw [hc1]; rfl) (.skp (.skp (.skp (.putEq (by rw [hc1]) (.refl _)) rfl) rfl) rfl))
  ·refine gs rfl rfl<|gs rfl rfl<|gs rfl rfl<|un1 (v:=(B false)) rfl<|dnil ?_
   exact hX _ (.putEq (by rw [hc1]; rfl) (.skp (.skp (.skp (.putEq (by rw [hc1]) (.refl _)) rfl) rfl) rfl))
 refine un1 rfl ?_
 refine spl h (fun h=>?_) fun h=>?_
 ·refine gt rfl<|a1 rfl ?_
  obtain ⟨r_1,hr2,h⟩:=bnd h
  obtain ⟨x_,hd,h⟩:=bnd h
  have hx1:at? r_.1 0=some (⟨e_TSPath x_,rfl⟩:Raw):=by rw [hr2,raw_eq rfl (Z18 hd)]
  refine gt rfl<|a1 (v:=(.c (.ref 0 2 (0:Int).toNat 0))) (s_iaddrL rfl rfl hz_ hx1)<|gt rfl<|a1 (v:=(.c (.ref 0 2 (0:Int).toNat 0))) rfl<|gt rfl<|a1 (v:=(.c (.ro false 1 (x_.Steps.map (eSl 7 e_TSTest))))) (s_loadL (z:=z_) (e:=eRaw) rfl rfl hz_ hx1 rfl rfl)<|gt rfl<|a1 (v:=(I (x_.Steps.length:Int))) (s_len (e:=(eSl 7 e_TSTest)) (xs:=x_.Steps) rfl)<|gt rfl<|a1 (v:=(B (decide ((x_.Steps.length:Int)=2)))) rfl<|un1 (v:=(B (decide ((x_.Steps.length:Int)=2)))) rfl<|un1 rfl ?_
  refine spl h (fun h=>?_) fun h=>?_
  ·refine gt rfl<|a1 rfl ?_
   obtain ⟨r_2,hr3,h⟩:=bnd h
   obtain ⟨x_1,hd1,h⟩:=bnd h
   have hx2:at? r_.1 0=some (⟨e_TSPath x_1,rfl⟩:Raw):=by rw [hr3,raw_eq rfl (Z18 hd1)]
   refine gt rfl<|a1 (v:=(.c (.ref 0 2 (0:Int).toNat 0))) (s_iaddrL rfl rfl hz_ hx2)<|gt rfl<|a1 (v:=(.c (.ref 0 2 (0:Int).toNat 1))) rfl<|gt rfl<|a1 (v:=(.c (.ro false 1 (x_1.Joins.map (eK .u8))))) (s_loadL (z:=z_) (e:=eRaw) rfl rfl hz_ hx2 rfl rfl)<|gt rfl<|a1 (v:=(S (byts x_1.Joins))) (s_ofBytes (xs:=x_1.Joins) rfl slc_ro)<|gt rfl<|a1 (v:=(B (decide ((byts x_1.Joins)=[62])))) rfl<|un1 (v:=(B (decide ((byts x_1.Joins)=[62])))) rfl<|un1 rfl<|dnil ?_
   exact Sv.weak (wcn [] rfl (.cf rfl rfl .nil) .nil) (Z7m h)
  ·repeat (first | refine gu rfl ?_ | refine gs rfl rfl ?_)
   refine un1 (v:=(B false)) rfl<|un1 rfl<|dnil ?_
   exact Sv.weak (wcn [] rfl (.cf rfl rfl .nil) .nil) (Z7m h)
 ·repeat (first | refine gu rfl ?_ | refine gs rfl rfl ?_)
  refine un1 (v:=(B false)) rfl<|un1 rfl ?_
  repeat (first | refine gu rfl ?_ | refine gs rfl rfl ?_)
  refine un1 (v:=(B false)) rfl<|un1 rfl<|dnil ?_
  exact Sv.weak (wcn [] rfl (.cf rfl rfl .nil) .nil) (Z7m h)
def a13_c0:ACode:=(.seq (sr [(mV 68 10),(oP 69 (.bin .lss (.tmp 68) (kI 0)))]
 (.cond (.tmp 69) (sr [(oP 4 (.mov (.const (.c (.val (.int .i64 (-1)))))))]
 .ret) .skip))
 (.region [(mV 70 5),(mV 71 10),(oP 72 (.bin .add (.tmp 70) (.tmp 71))),(mV 5 72)]))
def a13_c1:ACode:=(.region [(mV 38 8),(oP 39 (.bin .add (.tmp 38) (kI 1))),(mV 8 39)])
def a13_c2:ACode:=(.seq (sr [(mV 27 8),(mV 28 0),(mV 29 6),(oP 30 (.iaddr 2 (.tmp 28) (.tmp 29))),(oP 31 (.faddr 0 (.tmp 30))),(oP 32 (.load false 1 (.tmp 31))),(mV 33 7),(oP 34 (.iaddr 1 (.tmp 32) (.tmp 33))),(oP 35 (.load false 1 (.tmp 34))),(oP 36 (.len (.tmp 35))),(oP 37 (.bin .lss (.tmp 27) (.tmp 36)))]
 (.cond (.tmp 37) .skip (.exit 4)))
 (.seq (.block 5 (sr [(mV 40 0),(mV 41 6),(oP 42 (.iaddr 2 (.tmp 40) (.tmp 41))),(oP 43 (.faddr 0 (.tmp 42))),(oP 44 (.load false 1 (.tmp 43))),(mV 45 7),(oP 46 (.iaddr 1 (.tmp 44) (.tmp 45))),(oP 47 (.load false 1 (.tmp 46))),(mV 48 8),(oP 49 (.iaddr 7 (.tmp 47) (.tmp 48))),(oP 50 (.load true 7 (.tmp 49))),(oP 9 (.box (.const (.agg [(.val (.int .i64 0)),(.str []),(.val (.int .u8 0)),(.str []),(.val (.int .i64 0)),(.val (.int .i64 0)),(.ro true 2 [])])))),(oN (.store 7 (.tmp 9) (.tmp 50)))]
 (sr [(mV 51 5),(oP 52 (.bin .add (.tmp 51) (kI 1))),(mV 5 52)]
 (.seq (sr [(oP 53 (.faddr 6 (.tmp 9))),(oP 54 (.load false 1 (.tmp 53))),(oP 55 (.len (.tmp 54))),(oP 56 (.bin .eql (.tmp 55) (kI 0)))]
 (.cond (.tmp 56) (.exit 5) .skip))
 (sr [(oP 10 (.mov (.const (.c (.val (.int .i64 (-1)))))))]
 (.seq (sr [(mV 57 1),(oP 58 (.bin .lss (.tmp 57) (kI 3))),(mV 59 58),⟨(some 60),(.mov (.tmp 5)),(some (59,true))⟩,⟨(some 61),(.bin .leq (.tmp 60) (kI 40)),(some (59,true))⟩,(oP 62 (.pick (.tmp 59) (.tmp 61) kF))]
 (.cond (.tmp 62) (.region [(oP 63 (.faddr 6 (.tmp 9))),(oP 64 (.load false 1 (.tmp 63))),(mV 65 1),(oP 66 (.bin .add (.tmp 65) (kI 1))),(oP 67 (.call 13 [(.tmp 64),(.tmp 66)])),(mV 10 67)]) .skip))
 a13_c0))))))
 a13_c1))
def a13_c3:ACode:=(.seq (sr [(mV 17 7),(mV 18 0),(mV 19 6),(oP 20 (.iaddr 2 (.tmp 18) (.tmp 19))),(oP 21 (.faddr 0 (.tmp 20))),(oP 22 (.load false 1 (.tmp 21))),(oP 23 (.len (.tmp 22))),(oP 24 (.bin .lss (.tmp 17) (.tmp 23)))]
 (.cond (.tmp 24) .skip (.exit 2)))
 (.seq (.block 3 (sr [(oP 8 (.mov (kI 0)))]
 (.block 4 (.loop a13_c2))))
 (.region [(mV 25 7),(oP 26 (.bin .add (.tmp 25) (kI 1))),(mV 7 26)])))
def a13_c4:ACode:=(.seq (sr [(mV 11 6),(mV 12 0),(oP 13 (.len (.tmp 12))),(oP 14 (.bin .lss (.tmp 11) (.tmp 13)))]
 (.cond (.tmp 14) .skip (.exit 0)))
 (.seq (.block 1 (sr [(oP 7 (.mov (kI 0)))]
 (.block 2 (.loop a13_c3))))
 (.region [(mV 15 6),(oP 16 (.bin .add (.tmp 15) (kI 1))),(mV 6 16)])))
def a13:AFunc:=⟨2,[(.tmp 4)],(sr [(oP 4 (.mov (kI 0)))]
 (sr [(oP 5 (.mov (kI 0)))]
 (.seq (sr [(oP 6 (.mov (kI 0)))]
 (.block 0 (.loop a13_c4)))
 (sr [(mV 73 5),(mV 4 73)]
 .ret))))⟩
theorem c13:compFunc Tryz.prog 13=some a13:=by kernel_rfl
def Z3r (r:Int):AV→Heap→Nat→Prop:=fun v h' n' => v=(I r)∧(h' = e0)∧n' = 0
def Z66 (mL:Int) (recf:(List Raw)→Int→Option Int):Prop:=∀(l_:(List Raw)) (deep:Int) (r:Int),recf l_ deep=some r→CPure Tryz.prog (GG mL) 13 [(.c (.ro false 2 (l_.map eRaw))),(I deep)] (I r)
abbrev Z7n (l_:(List Raw)) (deep:Int) (i_:Int) (k_:Int) (F_:Int→Int→Option Int) (o:Int) (R_:St→Prop):Prop:=∀(n_4:Int) (m_:Int),F_ n_4 m_=some o→∀ s,Weak 0 s ⟨(ue [(8,(I m_)),(7,(I k_)),(6,(I i_)),(5,(I n_4)),(1,(I deep)),(0,(.c (.ro false 2 (l_.map eRaw))))]),e0,0⟩→R_ s
abbrev Z7o (l_:(List Raw)) (deep:Int) (i_:Int) (k_:Int) (F_:Int→Option Int) (o:Int) (R_:St→Prop):Prop:=∀(n_5:Int),F_ n_5=some o→∀ s,Weak 0 s ⟨(ue [(7,(I k_)),(6,(I i_)),(5,(I n_5)),(1,(I deep)),(0,(.c (.ro false 2 (l_.map eRaw))))]),e0,0⟩→R_ s
noncomputable def Z3s (m_:Int) (l_:(List Raw)) (deep:Int) (i_:Int) (k_:Int) (self:Int→Int→Option Int) (K4_:Int→Option Int) (n_6:Int):Option Int :=
 self n_6 (wi (m_+1))
theorem Zai {mL:Int}{Q:AExit→St→Prop}{m_:Int}{l_:(List Raw)}{deep:Int}{i_:Int}{k_:Int}{self:Int→Int→Option Int}{K4_:Int→Option Int}{n_6:Int}{o:Int}(h:Z3s m_ l_ deep i_ k_ self K4_ n_6=some o)
  (hself:Z7n l_ deep i_ k_ self o (Q .normal))
  (hK4:Z7o l_ deep i_ k_ K4_ o (Q (.exit 4)))
  (hr:∀ s,Ends a13.results 0 (Z3r o) .ret s→Q .ret s) :
  Sv Tryz.prog (GG mL) 0 a13_c1 Q ⟨(ue [(8,(I m_)),(7,(I k_)),(6,(I i_)),(5,(I n_6)),(1,(I deep)),(0,(.c (.ro false 2 (l_.map eRaw))))]),e0,0⟩:=by
 unfold Z3s at h
 refine srg<|un1 rfl<|un1 (v:=(I (wi (m_+1)))) rfl<|un1 rfl<|dnil ?_
 exact hself n_6 (wi (m_+1)) h _ (wcn [] rfl (.cf rfl rfl (.cf rfl rfl (.cf rfl rfl (.cf rfl rfl (.cf rfl rfl (.cf rfl rfl .nil)))))) .nil)
abbrev Zf7 (mL:Int) (Q:AExit→St→Prop):AExit→St→Prop:=AThen (Sv Tryz.prog (GG mL) 0 a13_c1 Q) Q
abbrev Zf8 (mL:Int) (Q:AExit→St→Prop):AExit→St→Prop:=ABlock 5 (Zf7 mL Q)
noncomputable def Z2a (m_:Int) (l_:(List Raw)) (deep:Int) (i_:Int) (k_:Int) (n_4:Int) (self:Int→Int→Option Int) (K4_:Int→Option Int) (more:Int):Option Int :=
 if decide (more<0) then
  some (-1)
 else
  Z3s m_ l_ deep i_ k_ self K4_ (wi ((wi (n_4+1))+more))
theorem Zaj {mL:Int}{Q:AExit→St→Prop}{m_:Int}{l_:(List Raw)}{deep:Int}{i_:Int}{k_:Int}{n_4:Int}{self:Int→Int→Option Int}{K4_:Int→Option Int}{more:Int}{o:Int}(h:Z2a m_ l_ deep i_ k_ n_4 self K4_ more=some o)
  (hself:Z7n l_ deep i_ k_ self o (Q .normal))
  (hK4:Z7o l_ deep i_ k_ K4_ o (Q (.exit 4)))
  (hr:∀ s,Ends a13.results 0 (Z3r o) .ret s→Q .ret s) :
  Sv Tryz.prog (GG mL) 0 a13_c0 (Zf8 mL Q) ⟨(ue [(10,(I more)),(8,(I m_)),(7,(I k_)),(6,(I i_)),(5,(I (wi (n_4+1)))),(1,(I deep)),(0,(.c (.ro false 2 (l_.map eRaw))))]),e0,0⟩:=by
 unfold Z2a at h
 refine Sv.seq<|ssr<|un1 rfl<|un1 (v:=(B (decide (more<0)))) rfl<|dnil ?_
 refine Sv.cnd rfl h (fun h=>?_) fun h=>?_
 ·refine ssr<|un1 rfl<|dnil<|Sv.ret ?_
  exact hr _ (rt0 h rfl rfl ⟨rfl,rfl,rfl⟩)
 ·refine Sv.skip<|srg<|un1 rfl<|un1 rfl<|un1 (v:=(I (wi ((wi (n_4+1))+more)))) rfl<|un1 rfl<|dnil ?_
  exact Sv.weak (wcn [] rfl (.cf rfl rfl (.cf rfl rfl (.cf rfl rfl (.cf rfl rfl (.cf rfl rfl (.cf rfl rfl .nil)))))) .nil) (Zai h hself hK4 hr)
abbrev Zak (l_:(List Raw)) (deep:Int) (i_:Int) (k_:Int) (F_:Nat→Int→Int→Option Int) (o:Int):Nat→St→Prop:=fun k s=>∃(n_4:Int),∃(m_:Int),F_ k n_4 m_=some o∧s=⟨(ue [(8,(I m_)),(7,(I k_)),(6,(I i_)),(5,(I n_4)),(1,(I deep)),(0,(.c (.ro false 2 (l_.map eRaw))))]),e0,0⟩
noncomputable def Z0 (l_:(List Raw)) (i_:Int) (k_:Int) (deep:Int) (recf:(List Raw)→Int→Option Int) (K4_:Int→Option Int):Nat→Int→Int→Option Int
 | 0,_,_=>none
 | k+1,n_4,m_ =>
  (at? l_ i_).bind fun r_1 =>
  (Z3 r_1.c).bind fun x_1 =>
  (at? x_1.Steps k_).bind fun x_2 =>
  if decide (m_<(x_2.length:Int)) then
   (at? l_ i_).bind fun r_2 =>
   (Z3 r_2.c).bind fun x_3 =>
   (at? x_3.Steps k_).bind fun x_4 =>
   (at? x_4 m_).bind fun x_5 =>
   if decide ((x_5.Subs.length:Int)=0) then
    Z3s m_ l_ deep i_ k_ (Z0 l_ i_ k_ deep recf K4_ k) K4_ (wi (n_4+1))
   else
    if ((decide (deep<3))&&(decide ((wi (n_4+1))≤40))) then
     (recf x_5.Subs (wi (deep+1))).bind fun r_3 =>
     Z2a m_ l_ deep i_ k_ n_4 (Z0 l_ i_ k_ deep recf K4_ k) K4_ r_3
    else
     Z2a m_ l_ deep i_ k_ n_4 (Z0 l_ i_ k_ deep recf K4_ k) K4_ (-1)
  else
   K4_ n_4
theorem Zf9 {mL:Int}{Q:AExit→St→Prop}{l_:(List Raw)}{i_:Int}{k_:Int}{deep:Int}{recf:(List Raw)→Int→Option Int}{K4_:Int→Option Int}{k:Nat}{n_4:Int}{m_:Int}{o:Int}(h:Z0 l_ i_ k_ deep recf K4_ k n_4 m_=some o)
  (hK4:Z7o l_ deep i_ k_ K4_ o (Q (.exit 4)))
  (hr:∀ s,Ends a13.results 0 (Z3r o) .ret s→Q .ret s)
  (hrec:Z66 mL recf) :
  Sv Tryz.prog (GG mL) 0 (.loop a13_c2) Q ⟨(ue [(8,(I m_)),(7,(I k_)),(6,(I i_)),(5,(I n_4)),(1,(I deep)),(0,(.c (.ro false 2 (l_.map eRaw))))]),e0,0⟩:=by
 refine Sv.loop (I:=Zak l_ deep i_ k_ (Z0 l_ i_ k_ deep recf K4_) o) (fun k s hI=>?_) ⟨n_4,m_,h,rfl⟩
 clear h
 clear m_ n_4
 obtain ⟨n_4,m_,h,rfl⟩:=hI
 cases k with
 | zero=>cases h
 | succ k =>
 rw [Z0] at h
 have hself:Z7n l_ deep i_ k_ (Z0 l_ i_ k_ deep recf K4_ k) o (rnd 0 (Zak l_ deep i_ k_ (Z0 l_ i_ k_ deep recf K4_) o) k Q):=fun n_4 m_ h s hw=>⟨_,k,hw,Nat.lt_succ_self k,n_4,m_,h,rfl⟩
 refine Sv.seq<|ssr<|un1 rfl<|un1 rfl<|un1 rfl ?_
 obtain ⟨r_1,hr2,h⟩:=bnd h
 obtain ⟨x_1,hd1,h⟩:=bnd h
 have hx2:at? l_ i_=some (⟨e_TSPath x_1,rfl⟩:Raw):=by rw [hr2,raw_eq rfl (Z18 hd1)]
 refine un1 (v:=(.c (.rop (e_TSPath x_1)))) (s_iaddr (e:=eRaw) (xs:=l_) rfl rfl hx2)<|un1 (v:=(.c (.rop (e_TSPath x_1)))) rfl<|un1 (v:=(.c (.ro false 1 (x_1.Steps.map (eSl 7 e_TSTest))))) rfl<|un1 rfl ?_
 obtain ⟨x_2,hx3,h⟩:=bnd h
 refine un1 (v:=(.c (.rop [.ro false 7 (x_2.map e_TSTest)]))) (s_iaddr (e:=(eSl 7 e_TSTest)) (xs:=x_1.Steps) rfl rfl hx3)<|un1 (v:=(.c (.ro false 7 (x_2.map e_TSTest)))) rfl<|un1 (v:=(I (x_2.length:Int))) (s_len (e:=e_TSTest) (xs:=x_2) rfl)<|un1 (v:=(B (decide (m_<(x_2.length:Int))))) rfl<|dnil ?_
 refine Sv.cnd rfl h (fun h=>?_) fun h=>?_
 ·refine Sv.skip<|Sv.seq<|Sv.block<|ssr<|un1 rfl<|un1 rfl ?_
  obtain ⟨r_2,hr3,h⟩:=bnd h
  obtain ⟨x_3,hd2,h⟩:=bnd h
  have hx4:at? l_ i_=some (⟨e_TSPath x_3,rfl⟩:Raw):=by rw [hr3,raw_eq rfl (Z18 hd2)]
  refine un1 (v:=(.c (.rop (e_TSPath x_3)))) (s_iaddr (e:=eRaw) (xs:=l_) rfl rfl hx4)<|un1 (v:=(.c (.rop (e_TSPath x_3)))) rfl<|un1 (v:=(.c (.ro false 1 (x_3.Steps.map (eSl 7 e_TSTest))))) rfl<|un1 rfl ?_
  obtain ⟨x_4,hx5,h⟩:=bnd h
  refine un1 (v:=(.c (.rop [.ro false 7 (x_4.map e_TSTest)]))) (s_iaddr (e:=(eSl 7 e_TSTest)) (xs:=x_3.Steps) rfl rfl hx5)<|un1 (v:=(.c (.ro false 7 (x_4.map e_TSTest)))) rfl<|un1 rfl ?_
  obtain ⟨x_5,hx6,h⟩:=bnd h
  refine un1 (v:=(.c (.rop (e_TSTest x_5)))) (s_iaddr (e:=e_TSTest) (xs:=x_4) rfl rfl hx6)<|un1 (v:=(.agg (e_TSTest x_5))) rfl<|un<|a2v (v:=(.c (.ref 0 7 0 0))) (h' := upd _ 0 (some (.cells 7 [[cI 0,.str [],.val (.int .u8 0),.str [],cI 0,cI 0,.ro true 2 []]]))) (n' := 1) rfl rfl hcs<|un<|a2n (h' := upd _ 0 (some (.cells 7 [(e_TSTest x_5)]))) (n' := 1) rfl rfl hcs<|dnil<|ssr<|un1 rfl<|un1 (v:=(I (wi (n_4+1)))) rfl<|un1 rfl<|dnil<|Sv.seq<|ssr<|un1 (v:=(.c (.ref 0 7 0 6))) rfl<|un1 (v:=(.c (.ro false 2 (x_5.Subs.map eRaw)))) rfl<|un1 (v:=(I (x_5.Subs.length:Int))) (s_len (e:=eRaw) (xs:=x_5.Subs) rfl)<|un1 (v:=(B (decide ((x_5.Subs.length:Int)=0)))) rfl<|dnil ?_
  refine Sv.cnd rfl h (fun h=>?_) fun h=>?_
  ·refine Sv.exit ?_
   exact Sv.weak (wcn [] rfl (.cf rfl rfl (.cf rfl rfl (.cf rfl rfl (.cf rfl rfl (.cf rfl rfl (.cf rfl rfl .nil)))))) .nil) (Zai h hself hK4 hr)
  ·refine Sv.skip<|ssr<|un1 rfl<|dnil<|Sv.seq<|ssr<|un1 rfl<|un1 (v:=(B (decide (deep<3)))) rfl<|un1 rfl ?_
   refine gjoin 3 (d:=62) (v:=(B ((decide (deep<3))&&(decide ((wi (n_4+1))≤40))))) (fun X hX=>?_) ?_
   ·refine split2 (fun hc6=>?_) (fun hc6=>?_)
    ·refine gt rfl<|a1 rfl<|gt rfl<|a1 (v:=(B (decide ((wi (n_4+1))≤40)))) rfl<|un1 (v:=(B (decide ((wi (n_4+1))≤40)))) rfl<|dnil ?_
     exact hX _ (.putEq (by rw [hc6]; rfl) (.skp (.skp (.putEq (by rw [hc6]) (.refl _)) rfl) rfl))
    ·refine gs rfl rfl<|gs rfl rfl<|un1 (v:=(B false)) rfl<|dnil ?_
     exact hX _ (.putEq (by rw [hc6]; rfl) (.skp (.skp (.putEq (by rw [hc6]) (.refl _)) rfl) rfl))
   refine dnil ?_
   refine Sv.cnd rfl h (fun h=>?_) fun h=>?_
   ·refine srg<|un1 (v:=(.c (.ref 0 7 0 6))) rfl<|un1 (v:=(.c (.ro false 2 (x_5.Subs.map eRaw)))) rfl<|un1 rfl<|un1 (v:=(I (wi (deep+1)))) rfl ?_
    obtain ⟨r_3,hr4,h⟩:=bnd h
    refine un<|ac_pure (hrec x_5.Subs (wi (deep+1)) _ hr4) rfl rfl rfl<|un1 rfl<|dnil ?_
    exact Sv.weak (wcn [] rfl (.cf rfl rfl (.cf rfl rfl (.cf rfl rfl (.cf rfl rfl (.cf rfl rfl (.cf rfl rfl (.cf rfl rfl .nil))))))) .nil) (Zaj h hself hK4 hr)
   ·refine Sv.skip ?_
    exact Sv.weak (wcn [] rfl (.cf rfl rfl (.cf rfl rfl (.cf rfl rfl (.cf rfl rfl (.cf rfl rfl (.cf rfl rfl (.cf rfl rfl .nil))))))) .nil) (Zaj h hself hK4 hr)
 ·refine Sv.exit ?_
  exact hK4 n_4 h _ (wcn [] rfl (.cf rfl rfl (.cf rfl rfl (.cf rfl rfl (.cf rfl rfl (.cf rfl rfl .nil))))) .nil)
abbrev Zfa (l_:(List Raw)) (deep:Int) (i_:Int) (F_:Int→Option Int) (o:Int) (R_:St→Prop):Prop:=∀(n_3:Int),F_ n_3=some o→∀ s,Weak 0 s ⟨(ue [(6,(I i_)),(5,(I n_3)),(1,(I deep)),(0,(.c (.ro false 2 (l_.map eRaw))))]),e0,0⟩→R_ s
abbrev Zal (l_:(List Raw)) (deep:Int) (i_:Int) (F_:Nat→Int→Int→Option Int) (o:Int):Nat→St→Prop:=fun k s=>∃(n_2:Int),∃(k_:Int),F_ k n_2 k_=some o∧s=⟨(ue [(7,(I k_)),(6,(I i_)),(5,(I n_2)),(1,(I deep)),(0,(.c (.ro false 2 (l_.map eRaw))))]),e0,0⟩
abbrev Zfb (l_:(List Raw)) (deep:Int) (i_:Int) (F_:Int→Int→Option Int) (o:Int) (R_:St→Prop):Prop:=∀(n_2:Int) (k_:Int),F_ n_2 k_=some o→∀ s,Weak 0 s ⟨(ue [(7,(I k_)),(6,(I i_)),(5,(I n_2)),(1,(I deep)),(0,(.c (.ro false 2 (l_.map eRaw))))]),e0,0⟩→R_ s
noncomputable def Zc (l_:(List Raw)) (i_:Int) (deep:Int) (recf:(List Raw)→Int→Option Int) (K2_:Int→Option Int):Nat→Int→Int→Option Int
 | 0,_,_=>none
 | k+1,n_2,k_ =>
  (at? l_ i_).bind fun r_ =>
  (Z3 r_.c).bind fun x_ =>
  if decide (k_<(x_.Steps.length:Int)) then
   limF fun kk=>Z0 l_ i_ k_ deep recf (fun (n_5:Int) => 
     (Zc l_ i_ deep recf K2_ k) n_5 (wi (k_+1))) kk n_2 0
  else
   K2_ n_2
theorem Zfc {mL:Int}{Q:AExit→St→Prop}{l_:(List Raw)}{i_:Int}{deep:Int}{recf:(List Raw)→Int→Option Int}{K2_:Int→Option Int}{k:Nat}{n_2:Int}{k_:Int}{o:Int}(h:Zc l_ i_ deep recf K2_ k n_2 k_=some o)
  (hK2:Zfa l_ deep i_ K2_ o (Q (.exit 2)))
  (hr:∀ s,Ends a13.results 0 (Z3r o) .ret s→Q .ret s)
  (hrec:Z66 mL recf) :
  Sv Tryz.prog (GG mL) 0 (.loop a13_c3) Q ⟨(ue [(7,(I k_)),(6,(I i_)),(5,(I n_2)),(1,(I deep)),(0,(.c (.ro false 2 (l_.map eRaw))))]),e0,0⟩:=by
 refine Sv.loop (I:=Zal l_ deep i_ (Zc l_ i_ deep recf K2_) o) (fun k s hI=>?_) ⟨n_2,k_,h,rfl⟩
 clear h
 clear k_ n_2
 obtain ⟨n_2,k_,h,rfl⟩:=hI
 cases k with
 | zero=>cases h
 | succ k =>
 rw [Zc] at h
 have hself:Zfb l_ deep i_ (Zc l_ i_ deep recf K2_ k) o (rnd 0 (Zal l_ deep i_ (Zc l_ i_ deep recf K2_) o) k Q):=fun n_2 k_ h s hw=>⟨_,k,hw,Nat.lt_succ_self k,n_2,k_,h,rfl⟩
 refine Sv.seq<|ssr<|un1 rfl<|un1 rfl<|un1 rfl ?_
 obtain ⟨r_,hr1,h⟩:=bnd h
 obtain ⟨x_,hd,h⟩:=bnd h
 have hx1:at? l_ i_=some (⟨e_TSPath x_,rfl⟩:Raw):=by rw [hr1,raw_eq rfl (Z18 hd)]
 refine un1 (v:=(.c (.rop (e_TSPath x_)))) (s_iaddr (e:=eRaw) (xs:=l_) rfl rfl hx1)<|un1 (v:=(.c (.rop (e_TSPath x_)))) rfl<|un1 (v:=(.c (.ro false 1 (x_.Steps.map (eSl 7 e_TSTest))))) rfl<|un1 (v:=(I (x_.Steps.length:Int))) (s_len (e:=(eSl 7 e_TSTest)) (xs:=x_.Steps) rfl)<|un1 (v:=(B (decide (k_<(x_.Steps.length:Int))))) rfl<|dnil ?_
 refine Sv.cnd rfl h (fun h=>?_) fun h=>?_
 ·refine Sv.skip<|Sv.seq<|Sv.block<|ssr<|un1 rfl<|dnil<|Sv.block ?_
  obtain ⟨kk,h⟩:=limF_some h
  refine Sv.weak (wcn [] rfl (.cf rfl rfl (.cf rfl rfl (.cf rfl rfl (.cf rfl rfl (.cf rfl rfl (.cf rfl rfl .nil)))))) .nil) (Zf9 h ?_ hr hrec)
  ·intro n_5 h _ hw1
   refine Sv.weak hw1<|srg<|un1 rfl<|un1 (v:=(I (wi (k_+1)))) rfl<|un1 rfl<|dnil ?_
   exact hself n_5 (wi (k_+1)) h _ (wcn [] rfl (.cf rfl rfl (.cf rfl rfl (.cf rfl rfl (.cf rfl rfl (.cf rfl rfl .nil))))) .nil)
 ·refine Sv.exit ?_
  exact hK2 n_2 h _ (wcn [] rfl (.cf rfl rfl (.cf rfl rfl (.cf rfl rfl (.cf rfl rfl .nil)))) .nil)
abbrev Zfd (F_:Int→Option Int) (o:Int) (R_:St→Prop):Prop:=∀(n_1:Int),F_ n_1=some o→∀ s,Weak 0 s ⟨(upd e0 5 (some (I n_1))),e0,0⟩→R_ s
abbrev Zam (l_:(List Raw)) (deep:Int) (F_:Nat→Int→Int→Option Int) (o:Int):Nat→St→Prop:=fun k s=>∃(n_:Int),∃(i_:Int),F_ k n_ i_=some o∧s=⟨(ue [(6,(I i_)),(5,(I n_)),(1,(I deep)),(0,(.c (.ro false 2 (l_.map eRaw))))]),e0,0⟩
abbrev Zfe (l_:(List Raw)) (deep:Int) (F_:Int→Int→Option Int) (o:Int) (R_:St→Prop):Prop:=∀(n_:Int) (i_:Int),F_ n_ i_=some o→∀ s,Weak 0 s ⟨(ue [(6,(I i_)),(5,(I n_)),(1,(I deep)),(0,(.c (.ro false 2 (l_.map eRaw))))]),e0,0⟩→R_ s
noncomputable def Z8 (l_:(List Raw)) (deep:Int) (recf:(List Raw)→Int→Option Int) (K0_:Int→Option Int):Nat→Int→Int→Option Int
 | 0,_,_=>none
 | k+1,n_,i_ =>
  if decide (i_<(l_.length:Int)) then
   limF fun kk1=>Zc l_ i_ deep recf (fun (n_3:Int) => 
     (Z8 l_ deep recf K0_ k) n_3 (wi (i_+1))) kk1 n_ 0
  else
   K0_ n_
theorem Zff {mL:Int}{Q:AExit→St→Prop}{l_:(List Raw)}{deep:Int}{recf:(List Raw)→Int→Option Int}{K0_:Int→Option Int}{k:Nat}{n_:Int}{i_:Int}{o:Int}(h:Z8 l_ deep recf K0_ k n_ i_=some o)
  (hK0:Zfd K0_ o (Q (.exit 0)))
  (hr:∀ s,Ends a13.results 0 (Z3r o) .ret s→Q .ret s)
  (hrec:Z66 mL recf) :
  Sv Tryz.prog (GG mL) 0 (.loop a13_c4) Q ⟨(ue [(6,(I i_)),(5,(I n_)),(1,(I deep)),(0,(.c (.ro false 2 (l_.map eRaw))))]),e0,0⟩:=by
 refine Sv.loop (I:=Zam l_ deep (Z8 l_ deep recf K0_) o) (fun k s hI=>?_) ⟨n_,i_,h,rfl⟩
 clear h
 clear i_ n_
 obtain ⟨n_,i_,h,rfl⟩:=hI
 cases k with
 | zero=>cases h
 | succ k =>
 rw [Z8] at h
 have hself:Zfe l_ deep (Z8 l_ deep recf K0_ k) o (rnd 0 (Zam l_ deep (Z8 l_ deep recf K0_) o) k Q):=fun n_ i_ h s hw=>⟨_,k,hw,Nat.lt_succ_self k,n_,i_,h,rfl⟩
 refine Sv.seq<|ssr<|un1 rfl<|un1 rfl<|un1 (v:=(I (l_.length:Int))) (s_len (e:=eRaw) (xs:=l_) rfl)<|un1 (v:=(B (decide (i_<(l_.length:Int))))) rfl<|dnil ?_
 refine Sv.cnd rfl h (fun h=>?_) fun h=>?_
 ·refine Sv.skip<|Sv.seq<|Sv.block<|ssr<|un1 rfl<|dnil<|Sv.block ?_
  obtain ⟨kk1,h⟩:=limF_some h
  refine Sv.weak (wcn [] rfl (.cf rfl rfl (.cf rfl rfl (.cf rfl rfl (.cf rfl rfl (.cf rfl rfl .nil))))) .nil) (Zfc h ?_ hr hrec)
  ·intro n_3 h _ hw2
   refine Sv.weak hw2<|srg<|un1 rfl<|un1 (v:=(I (wi (i_+1)))) rfl<|un1 rfl<|dnil ?_
   exact hself n_3 (wi (i_+1)) h _ (wcn [] rfl (.cf rfl rfl (.cf rfl rfl (.cf rfl rfl (.cf rfl rfl .nil)))) .nil)
 ·refine Sv.exit ?_
  exact hK0 n_ h _ (wcn [] rfl (.cf rfl rfl .nil) .nil)
noncomputable def Zi:Nat→(List Raw)→Int→Option Int
 | 0,_,_=>none
 | k+1,l_,deep =>
  limF fun kk2=>Z8 l_ deep (Zi k) (fun (n_1:Int) => 
    some n_1) kk2 0 0
noncomputable def Z67 (l_:(List Raw)) (deep:Int):Option Int :=
 limF fun kr=>Zi kr l_ deep
theorem Zfg {mL:Int}(k:Nat):Z66 mL (Zi k):=by
 induction k with
 | zero=>intro l_ deep r h; cases h
 | succ k hrec =>
 intro l_ deep r h
 refine acalls_of_sv hmix c13 (R:=Z3r r) ?_
 rw [Zi] at h
 refine ssr<|un1 rfl<|dnil<|ssr<|un1 rfl<|dnil<|Sv.seq<|ssr<|un1 rfl<|dnil<|Sv.block ?_
 obtain ⟨kk2,h⟩:=limF_some h
 refine Sv.weak (wcn [] rfl (.cf rfl rfl (.cf rfl rfl (.cf rfl rfl (.cf rfl rfl .nil)))) .nil) (Zff h ?_ (fun s hs=>hs) hrec)
 ·intro n_1 h _ hw3
  refine Sv.weak hw3<|ssr<|un1 rfl<|un1 rfl<|dnil<|Sv.ret ?_
  exact rt0 h rfl rfl ⟨rfl,rfl,rfl⟩
theorem Zfh {mL:Int}{l_:(List Raw)}{deep:Int}{r:Int}(h:Z67 l_ deep=some r):CPure Tryz.prog (GG mL) 13 [(.c (.ro false 2 (l_.map eRaw))),(I deep)] (I r):=by
 unfold Z67 at h
 obtain ⟨k,h⟩:=limF_some h
 exact Zfg k l_ deep  r h
def a22_c0:ACode:=(.seq (sr [(mV 6 5),(mV 7 0),(oP 8 (.lenS (.tmp 7))),(oP 9 (.bin .lss (.tmp 6) (.tmp 8)))]
 (.cond (.tmp 9) .skip (.exit 0)))
 (.seq (.block 1 (sr [(mV 12 0),(mV 13 5),(oP 14 (.idxS (.tmp 12) (.tmp 13))),(mV 15 1),(oP 16 (.bin .eql (.tmp 14) (.tmp 15)))]
 (.cond (.tmp 16) (sr [(oP 4 (.mov kT))]
 .ret) .skip)))
 (.region [(mV 10 5),(oP 11 (.bin .add (.tmp 10) (kI 1))),(mV 5 11)])))
def a22:AFunc:=⟨2,[(.tmp 4)],(sr [(oP 4 (.mov kF))]
 (.seq (sr [(oP 5 (.mov (kI 0)))]
 (.block 0 (.loop a22_c0)))
 (sr [(oP 4 (.mov kF))]
 .ret)))⟩
theorem c22:compFunc Tryz.prog 22=some a22:=by kernel_rfl
def Zan (r:Bool):AV→Heap→Nat→Prop:=fun v h' n' => v=(B r)∧(h' = e0)∧n' = 0
abbrev Zfi (F_:Unit→Option Bool) (o:Bool) (R_:St→Prop):Prop:=∀(_:Unit),F_ ()=some o→∀ s,Weak 0 s ⟨e0,e0,0⟩→R_ s
abbrev Zao (s_:Tx) (c_:Int) (F_:Nat→Int→Option Bool) (o:Bool):Nat→St→Prop:=fun k s=>∃(i_:Int),F_ k i_=some o∧s=⟨(ue [(5,(I i_)),(1,(.c (.val (.int .u8 c_)))),(0,(S s_))]),e0,0⟩
abbrev Zfj (s_:Tx) (c_:Int) (F_:Int→Option Bool) (o:Bool) (R_:St→Prop):Prop:=∀(i_:Int),F_ i_=some o→∀ s,Weak 0 s ⟨(ue [(5,(I i_)),(1,(.c (.val (.int .u8 c_)))),(0,(S s_))]),e0,0⟩→R_ s
noncomputable def Zj (s_:Tx) (c_:Int) (K0_:Unit→Option Bool):Nat→Int→Option Bool
 | 0,_=>none
 | k+1,i_ =>
  if decide (i_<(s_.length:Int)) then
   (at? s_ i_).bind fun c_1 =>
   if decide ((c_1.toNat:Int)=c_) then
    some true
   else
    (Zj s_ c_ K0_ k) (wi (i_+1))
  else
   K0_ ()
theorem Zfk {mL:Int}{Q:AExit→St→Prop}{s_:Tx}{c_:Int}{K0_:Unit→Option Bool}{k:Nat}{i_:Int}{o:Bool}(h:Zj s_ c_ K0_ k i_=some o)
  (hK0:Zfi K0_ o (Q (.exit 0)))
  (hr:∀ s,Ends a22.results 0 (Zan o) .ret s→Q .ret s) :
  Sv Tryz.prog (GG mL) 0 (.loop a22_c0) Q ⟨(ue [(5,(I i_)),(1,(.c (.val (.int .u8 c_)))),(0,(S s_))]),e0,0⟩:=by
 refine Sv.loop (I:=Zao s_ c_ (Zj s_ c_ K0_) o) (fun k s hI=>?_) ⟨i_,h,rfl⟩
 clear h
 clear i_
 obtain ⟨i_,h,rfl⟩:=hI
 cases k with
 | zero=>cases h
 | succ k =>
 rw [Zj] at h
 have hself:Zfj s_ c_ (Zj s_ c_ K0_ k) o (rnd 0 (Zao s_ c_ (Zj s_ c_ K0_) o) k Q):=fun i_ h s hw=>⟨_,k,hw,Nat.lt_succ_self k,i_,h,rfl⟩
 refine Sv.seq<|ssr<|un1 rfl<|un1 rfl<|un1 (v:=(I (s_.length:Int))) rfl<|un1 (v:=(B (decide (i_<(s_.length:Int))))) rfl<|dnil ?_
 refine Sv.cnd rfl h (fun h=>?_) fun h=>?_
 ·refine Sv.skip<|Sv.seq<|Sv.block<|ssr<|un1 rfl<|un1 rfl ?_
  obtain ⟨c_1,hx1,h⟩:=bnd h
  refine un1 (v:=(.c (.val (.int .u8 (c_1.toNat:Int))))) (s_idxS rfl rfl hx1)<|un1 rfl<|un1 (v:=(B (decide ((c_1.toNat:Int)=c_)))) rfl<|dnil ?_
  refine Sv.cnd rfl h (fun h=>?_) fun h=>?_
  ·refine ssr<|un1 rfl<|dnil<|Sv.ret ?_
   exact hr _ (rt0 h rfl rfl ⟨rfl,rfl,rfl⟩)
  ·refine Sv.skip<|srg<|un1 rfl<|un1 (v:=(I (wi (i_+1)))) rfl<|un1 rfl<|dnil ?_
   exact hself (wi (i_+1)) h _ (wcn [] rfl (.cf rfl rfl (.cf rfl rfl (.cf rfl rfl .nil))) .nil)
 ·refine Sv.exit ?_
  exact hK0 () h _ (wcn [] rfl .nil .nil)
noncomputable def Z1t (s_:Tx) (c_:Int):Option Bool :=
 limF fun kk=>Zj s_ c_ (fun (_:Unit) => 
   some false) kk 0
theorem Zap {mL:Int}{s_:Tx}{c_:Int}{r:Bool}(h:Z1t s_ c_=some r):CPure Tryz.prog (GG mL) 22 [(S s_),(.c (.val (.int .u8 c_)))] (B r):=by
 refine acalls_of_sv hmix c22 (R:=Zan r) ?_
 unfold Z1t at h
 refine ssr<|un1 rfl<|dnil<|Sv.seq<|ssr<|un1 rfl<|dnil<|Sv.block ?_
 obtain ⟨kk,h⟩:=limF_some h
 refine Sv.weak (wcn [] rfl (.cf rfl rfl (.cf rfl rfl (.cf rfl rfl .nil))) .nil) (Zfk h ?_ (fun s hs=>hs))
 ·intro _ h _ hw1
  refine Sv.weak hw1<|ssr<|un1 rfl<|dnil<|Sv.ret ?_
  exact rt0 h rfl rfl ⟨rfl,rfl,rfl⟩
def a82:AFunc:=⟨1,[(.tmp 2)],(sr [(oP 2 (.mov kF))]
 (sr [(mV 3 0),(oP 4 (.bin .eql (.tmp 3) (.const (.c (.val (.int .u8 32)))))),(mV 5 4),⟨(some 6),(.mov (.tmp 0)),(some (5,false))⟩,⟨(some 7),(.bin .eql (.tmp 6) (.const (.c (.val (.int .u8 9))))),(some (5,false))⟩,(oP 8 (.pick (.tmp 5) kT (.tmp 7))),(mV 9 8),⟨(some 10),(.mov (.tmp 0)),(some (9,false))⟩,⟨(some 11),(.bin .eql (.tmp 10) (.const (.c (.val (.int .u8 10))))),(some (9,false))⟩,(oP 12 (.pick (.tmp 9) kT (.tmp 11))),(mV 13 12),⟨(some 14),(.mov (.tmp 0)),(some (13,false))⟩,⟨(some 15),(.bin .eql (.tmp 14) (.const (.c (.val (.int .u8 12))))),(some (13,false))⟩,(oP 16 (.pick (.tmp 13) kT (.tmp 15))),(mV 17 16),⟨(some 18),(.mov (.tmp 0)),(some (17,false))⟩,⟨(some 19),(.bin .eql (.tmp 18) (.const (.c (.val (.int .u8 13))))),(some (17,false))⟩,(oP 20 (.pick (.tmp 17) kT (.tmp 19))),(mV 2 20)]
 .ret))⟩
theorem c82:compFunc Tryz.prog 82=some a82:=by kernel_rfl
def Zfl (r:Bool):AV→Heap→Nat→Prop:=fun v h' n' => v=(B r)∧(h' = e0)∧n' = 0
def Z2b (c_:Int):Bool :=
 (((((decide (c_=32))||(decide (c_=9)))||(decide (c_=10)))||(decide (c_=12)))||(decide (c_=13)))
theorem Zaq {mL:Int}(c_:Int):CPure Tryz.prog (GG mL) 82 [(.c (.val (.int .u8 c_)))] (B (Z2b c_)):=by
 generalize h:Z2b c_=o
 refine acalls_of_sv hmix c82 (R:=Zfl o) ?_
 unfold Z2b at h
 refine ssr<|un1 rfl<|dnil<|ssr<|un1 rfl<|un1 (v:=(B (decide (c_=32)))) rfl<|un1 rfl ?_
 refine gjoin 3 (d:=8) (v:=(B ((decide (c_=32))||(decide (c_=9))))) (fun X hX=>?_) ?_
 ·refine split2 (fun hc1=>?_) (fun hc1=>?_)
  ·refine gs rfl rfl<|gs rfl rfl<|un1 (v:=(B true)) rfl<|dnil ?_
   exact hX _ (.putEq (by rw [hc1]; rfl) (.skp (.skp (.putEq (by rw [hc1]) (.refl _)) rfl) rfl))
  ·refine gt rfl<|a1 rfl<|gt rfl<|a1 (v:=(B (decide (c_=9)))) rfl<|un1 (v:=(B (decide (c_=9)))) rfl<|dnil ?_
   exact hX _ (.putEq (by rw [hc1]; rfl) (.skp (.skp (.putEq (by rw [hc1]) (.refl _)) rfl) rfl))
 refine un1 rfl ?_
 refine gjoin 3 (d:=12) (v:=(B (((decide (c_=32))||(decide (c_=9)))||(decide (c_=10))))) (fun X hX=>?_) ?_
 ·refine split2 (fun hc2=>?_) (fun hc2=>?_)
  ·refine gs rfl rfl<|gs rfl rfl<|un1 (v:=(B true)) rfl<|dnil ?_
   exact hX _ (.putEq (by rw [hc2]; rfl) (.skp (.skp (.putEq (by rw [hc2]) (.refl _)) rfl) rfl))
  ·refine gt rfl<|a1 rfl<|gt rfl<|a1 (v:=(B (decide (c_=10)))) rfl<|un1 (v:=(B (decide (c_=10)))) rfl<|dnil ?_
   exact hX _ (.putEq (by rw [hc2]; rfl) (.skp (.skp (.putEq (by rw [hc2]) (.refl _)) rfl) rfl))
 refine un1 rfl ?_
 refine gjoin 3 (d:=16) (v:=(B ((((decide (c_=32))||(decide (c_=9)))||(decide (c_=10)))||(decide (c_=12))))) (fun X hX=>?_) ?_
 ·refine split2 (fun hc3=>?_) (fun hc3=>?_)
  ·refine gs rfl rfl<|gs rfl rfl<|un1 (v:=(B true)) rfl<|dnil ?_
   exact hX _ (.putEq (by rw [hc3]; rfl) (.skp (.skp (.putEq (by rw [hc3]) (.refl _)) rfl) rfl))
  ·refine gt rfl<|a1 rfl<|gt rfl<|a1 (v:=(B (decide (c_=12)))) rfl<|un1 (v:=(B (decide (c_=12)))) rfl<|dnil ?_
   exact hX _ (.putEq (by rw [hc3]; rfl) (.skp (.skp (.putEq (by rw [hc3]) (.refl _)) rfl) rfl))
 refine un1 rfl ?_
 refine gjoin 3 (d:=20) (v:=(B (((((decide (c_=32))||(decide (c_=9)))||(decide (c_=10)))||(decide (c_=12)))||(decide (c_=13))))) (fun X hX=>?_) ?_
 ·refine split2 (fun hc4=>?_) (fun hc4=>?_)
  ·refine gs rfl rfl<|gs rfl rfl<|un1 (v:=(B true)) rfl<|dnil ?_
   exact hX _ (.putEq (by rw [hc4]; rfl) (.skp (.skp (.putEq (by rw [hc4]) (.refl _)) rfl) rfl))
  ·refine gt rfl<|a1 rfl<|gt rfl<|a1 (v:=(B (decide (c_=13)))) rfl<|un1 (v:=(B (decide (c_=13)))) rfl<|dnil ?_
   exact hX _ (.putEq (by rw [hc4]; rfl) (.skp (.skp (.putEq (by rw [hc4]) (.refl _)) rfl) rfl))
 refine un1 rfl<|dnil<|Sv.ret ?_
 subst h
 exact ⟨_,.refl _,_,rfl,⟨upd e0 0 (some (B (((((decide (c_=32))||(decide (c_=9)))||(decide (c_=10)))||(decide (c_=12)))||(decide (c_=13))))),e0,0⟩,(B (((((decide (c_=32))||(decide (c_=9)))||(decide (c_=10)))||(decide (c_=12)))||(decide (c_=13)))),weak_canon [] rfl ndl nll nlz (.cf rfl rfl .nil) .nil,rfl,rfl,rfl,rfl⟩
def a83:AFunc:=⟨2,[(.tmp 4)],(sr [(oP 4 (.mov (.const (.c (.val (.int .u8 0))))))]
 (.seq (sr [(mV 5 1),(mV 6 0),(oP 7 (.lenS (.tmp 6))),(oP 8 (.bin .lss (.tmp 5) (.tmp 7)))]
 (.cond (.tmp 8) (sr [(mV 9 0),(mV 10 1),(oP 11 (.idxS (.tmp 9) (.tmp 10))),(mV 4 11)]
 .ret) .skip))
 (sr [(oP 4 (.mov (.const (.c (.val (.int .u8 0))))))]
 .ret)))⟩
theorem c83:compFunc Tryz.prog 83=some a83:=by kernel_rfl
def Zfm (r:Int):AV→Heap→Nat→Prop:=fun v h' n' => v=(.c (.val (.int .u8 r)))∧(h' = e0)∧n' = 0
noncomputable def Zm (s_:Tx) (i_:Int):Option Int :=
 if decide (i_<(s_.length:Int)) then
  (at? s_ i_).bind fun c_ =>
  some (c_.toNat:Int)
 else
  some 0
theorem Z1u {mL:Int}{s_:Tx}{i_:Int}{r:Int}(h:Zm s_ i_=some r):CPure Tryz.prog (GG mL) 83 [(S s_),(I i_)] (.c (.val (.int .u8 r))):=by
 refine acalls_of_sv hmix c83 (R:=Zfm r) ?_
 unfold Zm at h
 refine ssr<|un1 rfl<|dnil<|Sv.seq<|ssr<|un1 rfl<|un1 rfl<|un1 (v:=(I (s_.length:Int))) rfl<|un1 (v:=(B (decide (i_<(s_.length:Int))))) rfl<|dnil ?_
 refine Sv.cnd rfl h (fun h=>?_) fun h=>?_
 ·refine ssr<|un1 rfl<|un1 rfl ?_
  obtain ⟨c_,hx1,h⟩:=bnd h
  refine un1 (v:=(.c (.val (.int .u8 (c_.toNat:Int))))) (s_idxS rfl rfl hx1)<|un1 rfl<|dnil<|Sv.ret ?_
  exact rt0 h rfl rfl ⟨rfl,rfl,rfl⟩
 ·refine Sv.skip<|ssr<|un1 rfl<|dnil<|Sv.ret ?_
  exact rt0 h rfl rfl ⟨rfl,rfl,rfl⟩
def a84_c0:ACode:=(.cond (.tmp 21) (sr [(mV 22 0),(mV 23 3),(oP 24 (.bin .add (.tmp 23) (kI 2))),(oP 25 (.slStr (.tmp 22) none (some (.tmp 24)))),(oP 26 (.build [(.val (.int .i64 0)),(.str []),(.str []),(.val (.int .i64 0))] [(0,(1,(kI 9))),(1,(1,(.tmp 25)))])),(oN (.store 4 (.tmp 2) (.tmp 26)))]
 .ret) .skip)
def a84_c1:ACode:=(.region [(mV 9 3),(oP 10 (.bin .add (.tmp 9) (kI 1))),(mV 3 10)])
def a84_c2:ACode:=(.seq (sr [(mV 4 3),(oP 5 (.bin .add (.tmp 4) (kI 1))),(mV 6 0),(oP 7 (.lenS (.tmp 6))),(oP 8 (.bin .lss (.tmp 5) (.tmp 7)))]
 (.cond (.tmp 8) .skip (.exit 0)))
 (.seq (.block 1 (sr [(mV 11 0),(mV 12 3),(oP 13 (.idxS (.tmp 11) (.tmp 12))),(oP 14 (.bin .eql (.tmp 13) (.const (.c (.val (.int .u8 42)))))),(mV 15 14),⟨(some 16),(.mov (.tmp 0)),(some (15,true))⟩,⟨(some 17),(.mov (.tmp 3)),(some (15,true))⟩,⟨(some 18),(.bin .add (.tmp 17) (kI 1)),(some (15,true))⟩,⟨(some 19),(.idxS (.tmp 16) (.tmp 18)),(some (15,true))⟩,⟨(some 20),(.bin .eql (.tmp 19) (.const (.c (.val (.int .u8 47))))),(some (15,true))⟩,(oP 21 (.pick (.tmp 15) (.tmp 20) kF))]
 a84_c0))
 a84_c1))
def a84:AFunc:=⟨1,[(.cell true 4 2)],(sr [(oP 2 (.box (.const (.agg [(.val (.int .i64 0)),(.str []),(.str []),(.val (.int .i64 0))]))))]
 (.seq (sr [(oP 3 (.mov (kI 2)))]
 (.block 0 (.loop a84_c2)))
 (sr [(mV 27 0),(oP 28 (.build [(.val (.int .i64 0)),(.str []),(.str []),(.val (.int .i64 0))] [(0,(1,(kI 9))),(1,(1,(.tmp 27)))])),(oN (.store 4 (.tmp 2) (.tmp 28)))]
 .ret)))⟩
theorem c84:compFunc Tryz.prog 84=some a84:=by kernel_rfl
def Z7p (r:TSToken):AV→Heap→Nat→Prop:=fun v h' n' => v=(.agg (e_TSToken r))∧(h' = e0)∧n' = 0
abbrev Zar (s_:Tx) (F_:Int→Option TSToken) (o:TSToken) (R_:St→Prop):Prop:=∀(i_:Int),F_ i_=some o→∀ s,Weak 0 s ⟨(ue [(3,(I i_)),(2,(.c (.ref 0 4 0 0))),(0,(S s_))]),(upd e0 0 (some (.cells 4 [[cI 0,.str [],.str [],cI 0]]))),1⟩→R_ s
abbrev Zas (s_:Tx) (F_:Unit→Option TSToken) (o:TSToken) (R_:St→Prop):Prop:=∀(_:Unit),F_ ()=some o→∀ s,Weak 0 s ⟨(ue [(2,(.c (.ref 0 4 0 0))),(0,(S s_))]),(upd e0 0 (some (.cells 4 [[cI 0,.str [],.str [],cI 0]]))),1⟩→R_ s
abbrev Zfn (mL:Int) (Q:AExit→St→Prop):AExit→St→Prop:=AThen (Sv Tryz.prog (GG mL) 0 a84_c1 Q) Q
abbrev Zfo (mL:Int) (Q:AExit→St→Prop):AExit→St→Prop:=ABlock 1 (Zfn mL Q)
noncomputable def Z4r (s_:Tx) (i_:Int) (self:Int→Option TSToken) (K0_:Unit→Option TSToken) (v21:Bool):Option TSToken :=
 if v21 then
  (sub? s_ 0 (wi (i_+2))).bind fun r_ =>
  some (⟨9,r_,[],0⟩:TSToken)
 else
  self (wi (i_+1))
theorem Zat {mL:Int}{Q:AExit→St→Prop}{s_:Tx}{i_:Int}{self:Int→Option TSToken}{K0_:Unit→Option TSToken}{v21:Bool}{o:TSToken}(h:Z4r s_ i_ self K0_ v21=some o)
  (hself:Zar s_ self o (Q .normal))
  (hK0:Zas s_ K0_ o (Q (.exit 0)))
  (hr:∀ s,Ends a84.results 0 (Z7p o) .ret s→Q .ret s) :
  Sv Tryz.prog (GG mL) 0 a84_c0 (Zfo mL Q) ⟨(ue [(21,(B v21)),(3,(I i_)),(2,(.c (.ref 0 4 0 0))),(0,(S s_))]),(upd e0 0 (some (.cells 4 [[cI 0,.str [],.str [],cI 0]]))),1⟩:=by
 unfold Z4r at h
 refine Sv.cnd rfl h (fun h=>?_) fun h=>?_
 ·refine ssr<|un1 rfl<|un1 rfl<|un1 (v:=(I (wi (i_+2)))) rfl ?_
  obtain ⟨r_,hx1,h⟩:=bnd h
  refine un1 (v:=(S r_)) (s_slStr rfl rfl rfl hx1)<|un1 (v:=(.agg [cI 9,.str r_,.str [],cI 0])) rfl<|un<|a2n (h' := upd _ 0 (some (.cells 4 [[cI 9,.str r_,.str [],cI 0]]))) (n' := 1) rfl rfl hcs<|dnil<|Sv.ret ?_
  exact hr _ (rt0 h rfl rfl ⟨rfl,rfl,rfl⟩)
 ·refine Sv.skip<|srg<|un1 rfl<|un1 (v:=(I (wi (i_+1)))) rfl<|un1 rfl<|dnil ?_
  exact hself (wi (i_+1)) h _ (wcn [0] rfl (.cf rfl rfl (.cr rfl rfl rfl (.cf rfl rfl .nil))) (.box (by decide) rfl (blkAs_cells (.sm rfl (.sm rfl (.sm rfl (.sm rfl .nil))))) .nil))
abbrev Zau (s_:Tx) (F_:Nat→Int→Option TSToken) (o:TSToken):Nat→St→Prop:=fun k s=>∃(i_:Int),F_ k i_=some o∧s=⟨(ue [(3,(I i_)),(2,(.c (.ref 0 4 0 0))),(0,(S s_))]),(upd e0 0 (some (.cells 4 [[cI 0,.str [],.str [],cI 0]]))),1⟩
noncomputable def Z1k (s_:Tx) (K0_:Unit→Option TSToken):Nat→Int→Option TSToken
 | 0,_=>none
 | k+1,i_ =>
  if decide ((wi (i_+1))<(s_.length:Int)) then
   (at? s_ i_).bind fun c_ =>
   if decide ((c_.toNat:Int)=42) then
    (at? s_ (wi (i_+1))).bind fun c_1 =>
    Z4r s_ i_ (Z1k s_ K0_ k) K0_ (decide ((c_1.toNat:Int)=47))
   else
    Z4r s_ i_ (Z1k s_ K0_ k) K0_ false
  else
   K0_ ()
theorem Zfp {mL:Int}{Q:AExit→St→Prop}{s_:Tx}{K0_:Unit→Option TSToken}{k:Nat}{i_:Int}{o:TSToken}(h:Z1k s_ K0_ k i_=some o)
  (hK0:Zas s_ K0_ o (Q (.exit 0)))
  (hr:∀ s,Ends a84.results 0 (Z7p o) .ret s→Q .ret s) :
  Sv Tryz.prog (GG mL) 0 (.loop a84_c2) Q ⟨(ue [(3,(I i_)),(2,(.c (.ref 0 4 0 0))),(0,(S s_))]),(upd e0 0 (some (.cells 4 [[cI 0,.str [],.str [],cI 0]]))),1⟩:=by
 refine Sv.loop (I:=Zau s_ (Z1k s_ K0_) o) (fun k s hI=>?_) ⟨i_,h,rfl⟩
 clear h
 clear i_
 obtain ⟨i_,h,rfl⟩:=hI
 cases k with
 | zero=>cases h
 | succ k =>
 rw [Z1k] at h
 have hself:Zar s_ (Z1k s_ K0_ k) o (rnd 0 (Zau s_ (Z1k s_ K0_) o) k Q):=fun i_ h s hw=>⟨_,k,hw,Nat.lt_succ_self k,i_,h,rfl⟩
 refine Sv.seq<|ssr<|un1 rfl<|un1 (v:=(I (wi (i_+1)))) rfl<|un1 rfl<|un1 (v:=(I (s_.length:Int))) rfl<|un1 (v:=(B (decide ((wi (i_+1))<(s_.length:Int))))) rfl<|dnil ?_
 refine Sv.cnd rfl h (fun h=>?_) fun h=>?_
 ·refine Sv.skip<|Sv.seq<|Sv.block<|ssr<|un1 rfl<|un1 rfl ?_
  obtain ⟨c_,hx2,h⟩:=bnd h
  refine un1 (v:=(.c (.val (.int .u8 (c_.toNat:Int))))) (s_idxS rfl rfl hx2)<|un1 (v:=(B (decide ((c_.toNat:Int)=42)))) rfl<|un1 rfl ?_
  refine spl h (fun h=>?_) fun h=>?_
  ·refine gt rfl<|a1 rfl<|gt rfl<|a1 rfl<|gt rfl<|a1 (v:=(I (wi (i_+1)))) rfl ?_
   obtain ⟨c_1,hx3,h⟩:=bnd h
   refine gt rfl<|a1 (v:=(.c (.val (.int .u8 (c_1.toNat:Int))))) (s_idxS rfl rfl hx3)<|gt rfl<|a1 (v:=(B (decide ((c_1.toNat:Int)=47)))) rfl<|un1 (v:=(B (decide ((c_1.toNat:Int)=47)))) rfl<|dnil ?_
   exact Sv.weak (wcn [0] rfl (.cf rfl rfl (.cf rfl rfl (.cr rfl rfl rfl (.cf rfl rfl .nil)))) (.box (by decide) rfl (blkAs_cells (.sm rfl (.sm rfl (.sm rfl (.sm rfl .nil))))) .nil)) (Zat h hself hK0 hr)
  ·repeat (first | refine gu rfl ?_ | refine gs rfl rfl ?_)
   refine un1 (v:=(B false)) rfl<|dnil ?_
   exact Sv.weak (wcn [0] rfl (.cf rfl rfl (.cf rfl rfl (.cr rfl rfl rfl (.cf rfl rfl .nil)))) (.box (by decide) rfl (blkAs_cells (.sm rfl (.sm rfl (.sm rfl (.sm rfl .nil))))) .nil)) (Zat h hself hK0 hr)
 ·refine Sv.exit ?_
  exact hK0 () h _ (wcn [0] rfl (.cr rfl rfl rfl (.cf rfl rfl .nil)) (.box (by decide) rfl (blkAs_cells (.sm rfl (.sm rfl (.sm rfl (.sm rfl .nil))))) .nil))
noncomputable def Z4s (s_:Tx):Option TSToken :=
 limF fun kk=>Z1k s_ (fun (_:Unit) => 
   some (⟨9,s_,[],0⟩:TSToken)) kk 2
theorem Zfq {mL:Int}{s_:Tx}{r:TSToken}(h:Z4s s_=some r):CPure Tryz.prog (GG mL) 84 [(S s_)] (.agg (e_TSToken r)):=by
 refine acalls_of_sv hmix c84 (R:=Z7p r) ?_
 unfold Z4s at h
 refine ssr<|un<|a2v (v:=(.c (.ref 0 4 0 0))) (h' := upd _ 0 (some (.cells 4 [[cI 0,.str [],.str [],cI 0]]))) (n' := 1) rfl rfl hcs<|dnil<|Sv.seq<|ssr<|un1 rfl<|dnil<|Sv.block ?_
 obtain ⟨kk,h⟩:=limF_some h
 refine Sv.weak (wcn [0] rfl (.cf rfl rfl (.cr rfl rfl rfl (.cf rfl rfl .nil))) (.box (by decide) rfl (blkAs_cells (.sm rfl (.sm rfl (.sm rfl (.sm rfl .nil))))) .nil)) (Zfp h ?_ (fun s hs=>hs))
 ·intro _ h _ hw1
  refine Sv.weak hw1<|ssr<|un1 rfl<|un1 (v:=(.agg [cI 9,.str s_,.str [],cI 0])) rfl<|un<|a2n (h' := upd _ 0 (some (.cells 4 [[cI 9,.str s_,.str [],cI 0]]))) (n' := 1) rfl rfl hcs<|dnil<|Sv.ret ?_
  exact rt0 h rfl rfl ⟨rfl,rfl,rfl⟩
def a85_c0:ACode:=(.cond (.tmp 22) .skip (.exit 0))
def a85_c1:ACode:=(sr [(mV 36 3),(mV 37 0),(mV 38 4),(mV 39 4),(oP 40 (.bin .add (.tmp 39) (kI 1))),(oP 41 (.slStr (.tmp 37) (some (.tmp 38)) (some (.tmp 40)))),(oP 42 (.bin .add (.tmp 36) (.tmp 41))),(mV 3 42)]
 (.region [(mV 43 4),(oP 44 (.bin .add (.tmp 43) (kI 1))),(mV 4 44)]))
def a85_c2:ACode:=(.block 1 (.seq (sr [(mV 23 0),(mV 24 4),(oP 25 (.idxS (.tmp 23) (.tmp 24))),(oP 26 (.bin .eql (.tmp 25) (.const (.c (.val (.int .u8 92)))))),(mV 27 26),⟨(some 28),(.mov (.tmp 4)),(some (27,true))⟩,⟨(some 29),(.bin .add (.tmp 28) (kI 1)),(some (27,true))⟩,⟨(some 30),(.mov (.tmp 0)),(some (27,true))⟩,⟨(some 31),(.lenS (.tmp 30)),(some (27,true))⟩,⟨(some 32),(.bin .lss (.tmp 29) (.tmp 31)),(some (27,true))⟩,(oP 33 (.pick (.tmp 27) (.tmp 32) kF))]
 (.cond (.tmp 33) (.region [(mV 34 4),(oP 35 (.bin .add (.tmp 34) (kI 1))),(mV 4 35)]) .skip))
 a85_c1))
def a85_c3:ACode:=(.seq (.seq (.drawn (.fin [((mV 5 4),(0,0)),((mV 6 0),(0,1)),((oP 7 (.lenS (.tmp 6))),(0,2)),((oP 8 (.bin .lss (.tmp 5) (.tmp 7))),(0,3)),((mV 9 8),(0,4)),(⟨(some 10),(.mov (.tmp 0)),(some (9,true))⟩,(0,5)),(⟨(some 11),(.mov (.tmp 4)),(some (9,true))⟩,(0,6)),(⟨(some 12),(.idxS (.tmp 10) (.tmp 11)),(some (9,true))⟩,(0,7)),(⟨(some 13),(.bin .neq (.tmp 12) (.const (.c (.val (.int .u8 10))))),(some (9,true))⟩,(0,8)),((oP 14 (.pick (.tmp 9) (.tmp 13) kF)),(0,9)),((mV 15 14),(0,10)),(⟨(some 16),(.mov (.tmp 0)),(some (15,true))⟩,(0,11)),(⟨(some 17),(.mov (.tmp 4)),(some (15,true))⟩,(0,12)),(⟨(some 18),(.idxS (.tmp 16) (.tmp 17)),(some (15,true))⟩,(0,13)),(⟨(some 19),(.mov (.tmp 0)),(some (15,true))⟩,(0,14)),(⟨(some 20),(.idxS (.tmp 19) (kI 0)),(some (15,true))⟩,(0,15)),(⟨(some 21),(.bin .neq (.tmp 18) (.tmp 20)),(some (15,true))⟩,(0,16)),((oP 22 (.pick (.tmp 15) (.tmp 21) kF)),(0,17))]))
 a85_c0)
 a85_c2)
def a85_c4:ACode:=(.cond (.tmp 56) (sr [(mV 57 0),(mV 58 4),(oP 59 (.bin .add (.tmp 58) (kI 1))),(oP 60 (.slStr (.tmp 57) none (some (.tmp 59)))),(mV 61 3),(oP 62 (.build [(.val (.int .i64 0)),(.str []),(.str []),(.val (.int .i64 0))] [(0,(1,(kI 5))),(1,(1,(.tmp 60))),(2,(1,(.tmp 61)))])),(oN (.store 4 (.tmp 2) (.tmp 62)))]
 .ret) .skip)
def a85_c5:ACode:=(sr [(mV 63 0),(mV 64 4),(oP 65 (.slStr (.tmp 63) none (some (.tmp 64)))),(oP 66 (.build [(.val (.int .i64 0)),(.str []),(.str []),(.val (.int .i64 0))] [(0,(1,(kI 6))),(1,(1,(.tmp 65)))])),(oN (.store 4 (.tmp 2) (.tmp 66)))]
 .ret)
def a85:AFunc:=⟨1,[(.cell true 4 2)],(sr [(oP 2 (.box (.const (.agg [(.val (.int .i64 0)),(.str []),(.str []),(.val (.int .i64 0))]))))]
 (sr [(oP 3 (.mov (.const (.c (.str [])))))]
 (sr [(oP 4 (.mov (kI 1)))]
 (.seq (.block 0 (.loop a85_c3))
 (.seq (.seq (.drawn (.fin [((mV 45 4),(0,0)),((mV 46 0),(0,1)),((oP 47 (.lenS (.tmp 46))),(0,2)),((oP 48 (.bin .lss (.tmp 45) (.tmp 47))),(0,3)),((mV 49 48),(0,4)),(⟨(some 50),(.mov (.tmp 0)),(some (49,true))⟩,(0,5)),(⟨(some 51),(.mov (.tmp 4)),(some (49,true))⟩,(0,6)),(⟨(some 52),(.idxS (.tmp 50) (.tmp 51)),(some (49,true))⟩,(0,7)),(⟨(some 53),(.mov (.tmp 0)),(some (49,true))⟩,(0,8)),(⟨(some 54),(.idxS (.tmp 53) (kI 0)),(some (49,true))⟩,(0,9)),(⟨(some 55),(.bin .eql (.tmp 52) (.tmp 54)),(some (49,true))⟩,(0,10)),((oP 56 (.pick (.tmp 49) (.tmp 55) kF)),(0,11))]))
 a85_c4)
 a85_c5)))))⟩
theorem c85:compFunc Tryz.prog 85=some a85:=by kernel_rfl
def Z3t (r:TSToken):AV→Heap→Nat→Prop:=fun v h' n' => v=(.agg (e_TSToken r))∧(h' = e0)∧n' = 0
abbrev Z7q (s_:Tx) (F_:Tx→Int→Option TSToken) (o:TSToken) (R_:St→Prop):Prop:=∀(value:Tx) (i_:Int),F_ value i_=some o→∀ s,Weak 0 s ⟨(ue [(4,(I i_)),(3,(S value)),(2,(.c (.ref 0 4 0 0))),(0,(S s_))]),(upd e0 0 (some (.cells 4 [[cI 0,.str [],.str [],cI 0]]))),1⟩→R_ s
abbrev Z7r (s_:Tx) (F_:Tx→Int→Option TSToken) (o:TSToken) (R_:St→Prop):Prop:=∀(value1:Tx) (i_1:Int),F_ value1 i_1=some o→∀ s,Weak 0 s ⟨(ue [(4,(I i_1)),(3,(S value1)),(2,(.c (.ref 0 4 0 0))),(0,(S s_))]),(upd e0 0 (some (.cells 4 [[cI 0,.str [],.str [],cI 0]]))),1⟩→R_ s
abbrev Zfr (mL:Int) (Q:AExit→St→Prop):AExit→St→Prop:=ABlock 1 Q
noncomputable def Z4t (s_:Tx) (value:Tx) (self:Tx→Int→Option TSToken) (K0_:Tx→Int→Option TSToken) (i_2:Int):Option TSToken :=
 (sub? s_ i_2 (wi (i_2+1))).bind fun r_ =>
 (cat? value r_).bind fun r_1 =>
 self r_1 (wi (i_2+1))
theorem Zav {mL:Int}{Q:AExit→St→Prop}{s_:Tx}{value:Tx}{self:Tx→Int→Option TSToken}{K0_:Tx→Int→Option TSToken}{i_2:Int}{o:TSToken}(h:Z4t s_ value self K0_ i_2=some o)
  (hself:Z7q s_ self o (Q .normal))
  (hK0:Z7r s_ K0_ o (Q (.exit 0)))
  (hr:∀ s,Ends a85.results 0 (Z3t o) .ret s→Q .ret s) :
  Sv Tryz.prog (GG mL) 0 a85_c1 (Zfr mL Q) ⟨(ue [(4,(I i_2)),(3,(S value)),(2,(.c (.ref 0 4 0 0))),(0,(S s_))]),(upd e0 0 (some (.cells 4 [[cI 0,.str [],.str [],cI 0]]))),1⟩:=by
 unfold Z4t at h
 refine ssr<|un1 rfl<|un1 rfl<|un1 rfl<|un1 rfl<|un1 (v:=(I (wi (i_2+1)))) rfl ?_
 obtain ⟨r_,hx1,h⟩:=bnd h
 refine un1 (v:=(S r_)) (s_slStr rfl rfl rfl hx1) ?_
 obtain ⟨r_1,hx2,h⟩:=bnd h
 refine un1 (v:=(S r_1)) (s_cat rfl rfl hx2)<|un1 rfl<|dnil<|srg<|un1 rfl<|un1 (v:=(I (wi (i_2+1)))) rfl<|un1 rfl<|dnil ?_
 exact hself r_1 (wi (i_2+1)) h _ (wcn [0] rfl (.cf rfl rfl (.cf rfl rfl (.cr rfl rfl rfl (.cf rfl rfl .nil)))) (.box (by decide) rfl (blkAs_cells (.sm rfl (.sm rfl (.sm rfl (.sm rfl .nil))))) .nil))
abbrev Zfs (mL:Int) (Q:AExit→St→Prop):AExit→St→Prop:=AThen (Sv Tryz.prog (GG mL) 0 a85_c2 Q) Q
noncomputable def Z3u (s_:Tx) (i_:Int) (value:Tx) (self:Tx→Int→Option TSToken) (K0_:Tx→Int→Option TSToken) (v22:Bool):Option TSToken :=
 if v22 then
  (at? s_ i_).bind fun c_ =>
  if ((decide ((c_.toNat:Int)=92))&&(decide ((wi (i_+1))<(s_.length:Int)))) then
   Z4t s_ value self K0_ (wi (i_+1))
  else
   Z4t s_ value self K0_ i_
 else
  K0_ value i_
theorem Z7s {mL:Int}{Q:AExit→St→Prop}{s_:Tx}{i_:Int}{value:Tx}{self:Tx→Int→Option TSToken}{K0_:Tx→Int→Option TSToken}{v22:Bool}{o:TSToken}(h:Z3u s_ i_ value self K0_ v22=some o)
  (hself:Z7q s_ self o (Q .normal))
  (hK0:Z7r s_ K0_ o (Q (.exit 0)))
  (hr:∀ s,Ends a85.results 0 (Z3t o) .ret s→Q .ret s) :
  Sv Tryz.prog (GG mL) 0 a85_c0 (Zfs mL Q) ⟨(ue [(22,(B v22)),(4,(I i_)),(3,(S value)),(2,(.c (.ref 0 4 0 0))),(0,(S s_))]),(upd e0 0 (some (.cells 4 [[cI 0,.str [],.str [],cI 0]]))),1⟩:=by
 unfold Z3u at h
 refine Sv.cnd rfl h (fun h=>?_) fun h=>?_
 ·refine Sv.skip<|Sv.block<|Sv.seq<|ssr<|un1 rfl<|un1 rfl ?_
  obtain ⟨c_,hx3,h⟩:=bnd h
  refine un1 (v:=(.c (.val (.int .u8 (c_.toNat:Int))))) (s_idxS rfl rfl hx3)<|un1 (v:=(B (decide ((c_.toNat:Int)=92)))) rfl<|un1 rfl ?_
  refine gjoin 6 (d:=33) (v:=(B ((decide ((c_.toNat:Int)=92))&&(decide ((wi (i_+1))<(s_.length:Int)))))) (fun X hX=>?_) ?_
  ·refine split2 (fun hc2=>?_) (fun hc2=>?_)
   ·refine gt rfl<|a1 rfl<|gt rfl<|a1 (v:=(I (wi (i_+1)))) rfl<|gt rfl<|a1 rfl<|gt rfl<|a1 (v:=(I (s_.length:Int))) rfl<|gt rfl<|a1 (v:=(B (decide ((wi (i_+1))<(s_.length:Int))))) rfl<|un1 (v:=(B (decide ((wi (i_+1))<(s_.length:Int))))) rfl<|dnil ?_
    exact hX _ (.putEq (by rw [hc2]; rfl) (by repeat (first | exact .putEq (by rw [hc2]) (.refl _) | refine .skp ?_ rfl)))
   ·repeat (first | refine gu rfl ?_ | refine gs rfl rfl ?_)
    refine un1 (v:=(B false)) rfl<|dnil ?_
    exact hX _ (.putEq (by rw [hc2]; rfl) (by repeat (first | exact .putEq (by rw [hc2]) (.refl _) | refine .skp ?_ rfl)))
  refine dnil ?_
  refine Sv.cnd rfl h (fun h=>?_) fun h=>?_
  ·refine srg<|un1 rfl<|un1 (v:=(I (wi (i_+1)))) rfl<|un1 rfl<|dnil ?_
   exact Sv.weak (wcn [0] rfl (.cf rfl rfl (.cf rfl rfl (.cr rfl rfl rfl (.cf rfl rfl .nil)))) (.box (by decide) rfl (blkAs_cells (.sm rfl (.sm rfl (.sm rfl (.sm rfl .nil))))) .nil)) (Zav h hself hK0 hr)
  ·refine Sv.skip ?_
   exact Sv.weak (wcn [0] rfl (.cf rfl rfl (.cf rfl rfl (.cr rfl rfl rfl (.cf rfl rfl .nil)))) (.box (by decide) rfl (blkAs_cells (.sm rfl (.sm rfl (.sm rfl (.sm rfl .nil))))) .nil)) (Zav h hself hK0 hr)
 ·refine Sv.exit ?_
  exact hK0 value i_ h _ (wcn [0] rfl (.cf rfl rfl (.cf rfl rfl (.cr rfl rfl rfl (.cf rfl rfl .nil)))) (.box (by decide) rfl (blkAs_cells (.sm rfl (.sm rfl (.sm rfl (.sm rfl .nil))))) .nil))
abbrev Zaw (s_:Tx) (F_:Nat→Tx→Int→Option TSToken) (o:TSToken):Nat→St→Prop:=fun k s=>∃(value:Tx),∃(i_:Int),F_ k value i_=some o∧s=⟨(ue [(4,(I i_)),(3,(S value)),(2,(.c (.ref 0 4 0 0))),(0,(S s_))]),(upd e0 0 (some (.cells 4 [[cI 0,.str [],.str [],cI 0]]))),1⟩
noncomputable def Z12 (s_:Tx) (K0_:Tx→Int→Option TSToken):Nat→Tx→Int→Option TSToken
 | 0,_,_=>none
 | k+1,value,i_ =>
  if decide (i_<(s_.length:Int)) then
   (at? s_ i_).bind fun c_1 =>
   if (!decide ((c_1.toNat:Int)=10)) then
    (at? s_ i_).bind fun c_2 =>
    (at? s_ 0).bind fun c_3 =>
    Z3u s_ i_ value (Z12 s_ K0_ k) K0_ (!decide ((c_2.toNat:Int)=(c_3.toNat:Int)))
   else
    Z3u s_ i_ value (Z12 s_ K0_ k) K0_ false
  else
   Z3u s_ i_ value (Z12 s_ K0_ k) K0_ false
theorem Zft {mL:Int}{Q:AExit→St→Prop}{s_:Tx}{K0_:Tx→Int→Option TSToken}{k:Nat}{value:Tx}{i_:Int}{o:TSToken}(h:Z12 s_ K0_ k value i_=some o)
  (hK0:Z7r s_ K0_ o (Q (.exit 0)))
  (hr:∀ s,Ends a85.results 0 (Z3t o) .ret s→Q .ret s) :
  Sv Tryz.prog (GG mL) 0 (.loop a85_c3) Q ⟨(ue [(4,(I i_)),(3,(S value)),(2,(.c (.ref 0 4 0 0))),(0,(S s_))]),(upd e0 0 (some (.cells 4 [[cI 0,.str [],.str [],cI 0]]))),1⟩:=by
 refine Sv.loop (I:=Zaw s_ (Z12 s_ K0_) o) (fun k s hI=>?_) ⟨value,i_,h,rfl⟩
 clear h
 clear i_ value
 obtain ⟨value,i_,h,rfl⟩:=hI
 cases k with
 | zero=>cases h
 | succ k =>
 rw [Z12] at h
 have hself:Z7q s_ (Z12 s_ K0_ k) o (rnd 0 (Zaw s_ (Z12 s_ K0_) o) k Q):=fun value i_ h s hw=>⟨_,k,hw,Nat.lt_succ_self k,value,i_,h,rfl⟩
 refine Sv.seq<|Sv.seq<|Sv.drawn<|un1 rfl<|un1 rfl<|un1 (v:=(I (s_.length:Int))) rfl<|un1 (v:=(B (decide (i_<(s_.length:Int))))) rfl<|un1 rfl ?_
 refine spl h (fun h=>?_) fun h=>?_
 ·refine gt rfl<|a1 rfl<|gt rfl<|a1 rfl ?_
  obtain ⟨c_1,hx4,h⟩:=bnd h
  refine gt rfl<|a1 (v:=(.c (.val (.int .u8 (c_1.toNat:Int))))) (s_idxS rfl rfl hx4)<|gt rfl<|a1 (v:=(B (!decide ((c_1.toNat:Int)=10)))) rfl<|un1 (v:=(B (!decide ((c_1.toNat:Int)=10)))) rfl<|un1 rfl ?_
  refine spl h (fun h=>?_) fun h=>?_
  ·refine gt rfl<|a1 rfl<|gt rfl<|a1 rfl ?_
   obtain ⟨c_2,hx5,h⟩:=bnd h
   refine gt rfl<|a1 (v:=(.c (.val (.int .u8 (c_2.toNat:Int))))) (s_idxS rfl rfl hx5)<|gt rfl<|a1 rfl ?_
   obtain ⟨c_3,hx6,h⟩:=bnd h
   refine gt rfl<|a1 (v:=(.c (.val (.int .u8 (c_3.toNat:Int))))) (s_idxS rfl rfl hx6)<|gt rfl<|a1 (v:=(B (!decide ((c_2.toNat:Int)=(c_3.toNat:Int))))) rfl<|un1 (v:=(B (!decide ((c_2.toNat:Int)=(c_3.toNat:Int))))) rfl<|dnil ?_
   exact Sv.weak (wcn [0] rfl (.cf rfl rfl (.cf rfl rfl (.cf rfl rfl (.cr rfl rfl rfl (.cf rfl rfl .nil))))) (.box (by decide) rfl (blkAs_cells (.sm rfl (.sm rfl (.sm rfl (.sm rfl .nil))))) .nil)) (Z7s h hself hK0 hr)
  ·repeat (first | refine gu rfl ?_ | refine gs rfl rfl ?_)
   refine un1 (v:=(B false)) rfl<|dnil ?_
   exact Sv.weak (wcn [0] rfl (.cf rfl rfl (.cf rfl rfl (.cf rfl rfl (.cr rfl rfl rfl (.cf rfl rfl .nil))))) (.box (by decide) rfl (blkAs_cells (.sm rfl (.sm rfl (.sm rfl (.sm rfl .nil))))) .nil)) (Z7s h hself hK0 hr)
 ·refine gs rfl rfl<|gs rfl rfl<|gs rfl rfl<|gs rfl rfl<|un1 (v:=(B false)) rfl<|un1 rfl ?_
  repeat (first | refine gu rfl ?_ | refine gs rfl rfl ?_)
  refine un1 (v:=(B false)) rfl<|dnil ?_
  exact Sv.weak (wcn [0] rfl (.cf rfl rfl (.cf rfl rfl (.cf rfl rfl (.cr rfl rfl rfl (.cf rfl rfl .nil))))) (.box (by decide) rfl (blkAs_cells (.sm rfl (.sm rfl (.sm rfl (.sm rfl .nil))))) .nil)) (Z7s h hself hK0 hr)
abbrev Zfu (mL:Int) (o:TSToken):AExit→St→Prop:=AThen (Sv Tryz.prog (GG mL) 0 a85_c5 (Ends a85.results 0 (Z3t o))) (Ends a85.results 0 (Z3t o))
noncomputable def Z2c (s_:Tx) (i_1:Int) (value1:Tx) (v56:Bool):Option TSToken :=
 if v56 then
  (sub? s_ 0 (wi (i_1+1))).bind fun r_2 =>
  some (⟨5,r_2,value1,0⟩:TSToken)
 else
  (sub? s_ 0 i_1).bind fun r_3 =>
  some (⟨6,r_3,[],0⟩:TSToken)
theorem Zax {mL:Int}{s_:Tx}{i_1:Int}{value1:Tx}{v56:Bool}{o:TSToken}(h:Z2c s_ i_1 value1 v56=some o) :
  Sv Tryz.prog (GG mL) 0 a85_c4 (Zfu mL o) ⟨(ue [(56,(B v56)),(4,(I i_1)),(3,(S value1)),(2,(.c (.ref 0 4 0 0))),(0,(S s_))]),(upd e0 0 (some (.cells 4 [[cI 0,.str [],.str [],cI 0]]))),1⟩:=by
 unfold Z2c at h
 refine Sv.cnd rfl h (fun h=>?_) fun h=>?_
 ·refine ssr<|un1 rfl<|un1 rfl<|un1 (v:=(I (wi (i_1+1)))) rfl ?_
  obtain ⟨r_2,hx7,h⟩:=bnd h
  refine un1 (v:=(S r_2)) (s_slStr rfl rfl rfl hx7)<|un1 rfl<|un1 (v:=(.agg [cI 5,.str r_2,.str value1,cI 0])) rfl<|un<|a2n (h' := upd _ 0 (some (.cells 4 [[cI 5,.str r_2,.str value1,cI 0]]))) (n' := 1) rfl rfl hcs<|dnil<|Sv.ret ?_
  exact rt0 h rfl rfl ⟨rfl,rfl,rfl⟩
 ·refine Sv.skip<|ssr<|un1 rfl<|un1 rfl ?_
  obtain ⟨r_3,hx8,h⟩:=bnd h
  refine un1 (v:=(S r_3)) (s_slStr rfl rfl rfl hx8)<|un1 (v:=(.agg [cI 6,.str r_3,.str [],cI 0])) rfl<|un<|a2n (h' := upd _ 0 (some (.cells 4 [[cI 6,.str r_3,.str [],cI 0]]))) (n' := 1) rfl rfl hcs<|dnil<|Sv.ret ?_
  exact rt0 h rfl rfl ⟨rfl,rfl,rfl⟩
noncomputable def Z4u (s_:Tx):Option TSToken :=
 limF fun kk=>Z12 s_ (fun (value1:Tx) (i_1:Int) => 
   if decide (i_1<(s_.length:Int)) then
    (at? s_ i_1).bind fun c_4 =>
    (at? s_ 0).bind fun c_5 =>
    Z2c s_ i_1 value1 (decide ((c_4.toNat:Int)=(c_5.toNat:Int)))
   else
    Z2c s_ i_1 value1 false) kk [] 1
theorem Zfv {mL:Int}{s_:Tx}{r:TSToken}(h:Z4u s_=some r):CPure Tryz.prog (GG mL) 85 [(S s_)] (.agg (e_TSToken r)):=by
 refine acalls_of_sv hmix c85 (R:=Z3t r) ?_
 unfold Z4u at h
 refine ssr<|un<|a2v (v:=(.c (.ref 0 4 0 0))) (h' := upd _ 0 (some (.cells 4 [[cI 0,.str [],.str [],cI 0]]))) (n' := 1) rfl rfl hcs<|dnil<|ssr<|un1 rfl<|dnil<|ssr<|un1 rfl<|dnil<|Sv.seq<|Sv.block ?_
 obtain ⟨kk,h⟩:=limF_some h
 refine Sv.weak (wcn [0] rfl (.cf rfl rfl (.cf rfl rfl (.cr rfl rfl rfl (.cf rfl rfl .nil)))) (.box (by decide) rfl (blkAs_cells (.sm rfl (.sm rfl (.sm rfl (.sm rfl .nil))))) .nil)) (Zft h ?_ (fun s hs=>hs))
 ·intro value1 i_1 h _ hw1
  refine Sv.weak hw1<|Sv.seq<|Sv.seq<|Sv.drawn<|un1 rfl<|un1 rfl<|un1 (v:=(I (s_.length:Int))) rfl<|un1 (v:=(B (decide (i_1<(s_.length:Int))))) rfl<|un1 rfl ?_
  refine spl h (fun h=>?_) fun h=>?_
  ·refine gt rfl<|a1 rfl<|gt rfl<|a1 rfl ?_
   obtain ⟨c_4,hx9,h⟩:=bnd h
   refine gt rfl<|a1 (v:=(.c (.val (.int .u8 (c_4.toNat:Int))))) (s_idxS rfl rfl hx9)<|gt rfl<|a1 rfl ?_
   obtain ⟨c_5,hx10,h⟩:=bnd h
   refine gt rfl<|a1 (v:=(.c (.val (.int .u8 (c_5.toNat:Int))))) (s_idxS rfl rfl hx10)<|gt rfl<|a1 (v:=(B (decide ((c_4.toNat:Int)=(c_5.toNat:Int))))) rfl<|un1 (v:=(B (decide ((c_4.toNat:Int)=(c_5.toNat:Int))))) rfl<|dnil ?_
   exact Sv.weak (wcn [0] rfl (.cf rfl rfl (.cf rfl rfl (.cf rfl rfl (.cr rfl rfl rfl (.cf rfl rfl .nil))))) (.box (by decide) rfl (blkAs_cells (.sm rfl (.sm rfl (.sm rfl (.sm rfl .nil))))) .nil)) (Zax h)
  ·repeat (first | refine gu rfl ?_ | refine gs rfl rfl ?_)
   refine un1 (v:=(B false)) rfl<|dnil ?_
   exact Sv.weak (wcn [0] rfl (.cf rfl rfl (.cf rfl rfl (.cf rfl rfl (.cr rfl rfl rfl (.cf rfl rfl .nil))))) (.box (by decide) rfl (blkAs_cells (.sm rfl (.sm rfl (.sm rfl (.sm rfl .nil))))) .nil)) (Zax h)
def a97:AFunc:=⟨1,[(.tmp 2)],(sr [(oP 2 (.mov kF))]
 (sr [(mV 3 0),(oP 4 (.bin .geq (.tmp 3) (.const (.c (.val (.int .u8 48)))))),(mV 5 4),⟨(some 6),(.mov (.tmp 0)),(some (5,true))⟩,⟨(some 7),(.bin .leq (.tmp 6) (.const (.c (.val (.int .u8 57))))),(some (5,true))⟩,(oP 8 (.pick (.tmp 5) (.tmp 7) kF)),(mV 2 8)]
 .ret))⟩
theorem c97:compFunc Tryz.prog 97=some a97:=by kernel_rfl
def Zfw (r:Bool):AV→Heap→Nat→Prop:=fun v h' n' => v=(B r)∧(h' = e0)∧n' = 0
def Zd (c_:Int):Bool :=
 ((decide (48≤c_))&&(decide (c_≤57)))
theorem Z68 {mL:Int}(c_:Int):CPure Tryz.prog (GG mL) 97 [(.c (.val (.int .u8 c_)))] (B (Zd c_)):=by
 generalize h:Zd c_=o
 refine acalls_of_sv hmix c97 (R:=Zfw o) ?_
 unfold Zd at h
 refine ssr<|un1 rfl<|dnil<|ssr<|un1 rfl<|un1 (v:=(B (decide (48≤c_)))) rfl<|un1 rfl ?_
 refine gjoin 3 (d:=8) (v:=(B ((decide (48≤c_))&&(decide (c_≤57))))) (fun X hX=>?_) ?_
 ·refine split2 (fun hc1=>?_) (fun hc1=>?_)
  ·refine gt rfl<|a1 rfl<|gt rfl<|a1 (v:=(B (decide (c_≤57)))) rfl<|un1 (v:=(B (decide (c_≤57)))) rfl<|dnil ?_
   exact hX _ (.putEq (by rw [hc1]; rfl) (.skp (.skp (.putEq (by rw [hc1]) (.refl _)) rfl) rfl))
  ·refine gs rfl rfl<|gs rfl rfl<|un1 (v:=(B false)) rfl<|dnil ?_
   exact hX _ (.putEq (by rw [hc1]; rfl) (.skp (.skp (.putEq (by rw [hc1]) (.refl _)) rfl) rfl))
 refine un1 rfl<|dnil<|Sv.ret ?_
 subst h
 exact ⟨_,.refl _,_,rfl,⟨upd e0 0 (some (B ((decide (48≤c_))&&(decide (c_≤57))))),e0,0⟩,(B ((decide (48≤c_))&&(decide (c_≤57)))),weak_canon [] rfl ndl nll nlz (.cf rfl rfl .nil) .nil,rfl,rfl,rfl,rfl⟩
def a86_c0:ACode:=(.cond (.tmp 16) (.region [(oP 4 (.mov (kI 1)))]) .skip)
def a86_c2:ACode:=(.cond (.tmp 27) .skip (.exit 0))
def a86_c3:ACode:=(.block 1 (sr [(mV 28 6),(oP 29 (.bin .mul (kI 10) (.tmp 28))),(mV 30 0),(mV 31 4),(oP 32 (.idxS (.tmp 30) (.tmp 31))),(oP 33 (.bin .sub (.tmp 32) (.const (.c (.val (.int .u8 48)))))),(oP 34 (.conv .i64 (.tmp 33))),(oP 35 (.bin .add (.tmp 29) (.tmp 34))),(oP 36 (.mm false [(.tmp 35),(kI 1000000000)])),(mV 6 36)]
 (.region [(mV 37 4),(oP 38 (.bin .add (.tmp 37) (kI 1))),(mV 4 38)])))
def a86_c4:ACode:=(.seq (sr [(mV 18 4),(mV 19 0),(oP 20 (.lenS (.tmp 19))),(oP 21 (.bin .lss (.tmp 18) (.tmp 20))),(mV 22 21),⟨(some 23),(.mov (.tmp 0)),(some (22,true))⟩,⟨(some 24),(.mov (.tmp 4)),(some (22,true))⟩,⟨(some 25),(.idxS (.tmp 23) (.tmp 24)),(some (22,true))⟩,⟨(some 26),(.call 97 [(.tmp 25)]),(some (22,true))⟩,(oP 27 (.pick (.tmp 22) (.tmp 26) kF))]
 a86_c2)
 a86_c3)
def a86_c6:ACode:=(.cond (.tmp 74) .skip (.exit 2))
def a86_c7:ACode:=(.block 3 (sr [(mV 75 6),(mV 76 8),(mV 77 0),(mV 78 4),(oP 79 (.idxS (.tmp 77) (.tmp 78))),(oP 80 (.bin .sub (.tmp 79) (.const (.c (.val (.int .u8 48)))))),(oP 81 (.conv .i64 (.tmp 80))),(oP 82 (.bin .mul (.tmp 76) (.tmp 81))),(oP 83 (.bin .add (.tmp 75) (.tmp 82))),(oP 84 (.mm false [(.tmp 83),(kI 1000000000)])),(mV 6 84)]
 (sr [(mV 85 8),(oP 86 (.bin .quo (.tmp 85) (kI 10))),(mV 8 86)]
 (sr [(mV 87 7),(oP 88 (.bin .add (.tmp 87) (kI 1))),(mV 7 88)]
 (.region [(mV 89 4),(oP 90 (.bin .add (.tmp 89) (kI 1))),(mV 4 90)])))))
def a86_c8:ACode:=(.seq (sr [(mV 65 4),(mV 66 0),(oP 67 (.lenS (.tmp 66))),(oP 68 (.bin .lss (.tmp 65) (.tmp 67))),(mV 69 68),⟨(some 70),(.mov (.tmp 0)),(some (69,true))⟩,⟨(some 71),(.mov (.tmp 4)),(some (69,true))⟩,⟨(some 72),(.idxS (.tmp 70) (.tmp 71)),(some (69,true))⟩,⟨(some 73),(.call 97 [(.tmp 72)]),(some (69,true))⟩,(oP 74 (.pick (.tmp 69) (.tmp 73) kF))]
 a86_c6)
 a86_c7)
def a86_c5:ACode:=(.cond (.tmp 62) (sr [(mV 63 4),(oP 64 (.bin .add (.tmp 63) (kI 1))),(mV 4 64)]
 (sr [(oP 8 (.mov (kI 100)))]
 (.block 2 (.loop a86_c8)))) .skip)
def a86_c10:ACode:=(sr [(mV 98 6),(mV 99 4),(mV 2 98),(mV 3 99)]
 .ret)
def a86_c9:ACode:=(.seq (sr [(mV 91 7),(oP 92 (.bin .eql (.tmp 91) (kI 0)))]
 (.cond (.tmp 92) (sr [(oP 2 (.mov (kI 0))),(oP 3 (.mov (kI 0)))]
 .ret) .skip))
 (.seq (sr [(mV 93 0),(oP 94 (.idxS (.tmp 93) (kI 0))),(oP 95 (.bin .eql (.tmp 94) (.const (.c (.val (.int .u8 45))))))]
 (.cond (.tmp 95) (.region [(mV 96 6),(oP 97 (.bin .sub (kI 0) (.tmp 96))),(mV 6 97)]) .skip))
 a86_c10))
def a86_c1:ACode:=(sr [(mV 17 4),(mV 5 17)]
 (sr [(oP 6 (.mov (kI 0)))]
 (.seq (.block 0 (.loop a86_c4))
 (sr [(mV 39 4),(mV 40 5),(oP 41 (.bin .sub (.tmp 39) (.tmp 40))),(mV 7 41)]
 (sr [(mV 42 6),(oP 43 (.bin .mul (kI 1000) (.tmp 42))),(oP 44 (.mm false [(.tmp 43),(kI 1000000000)])),(mV 6 44)]
 (.seq (sr [(mV 45 0),(mV 46 4),(oP 47 (.call 83 [(.tmp 45),(.tmp 46)])),(oP 48 (.bin .eql (.tmp 47) (.const (.c (.val (.int .u8 46)))))),(mV 49 48),⟨(some 50),(.mov (.tmp 4)),(some (49,true))⟩,⟨(some 51),(.bin .add (.tmp 50) (kI 1)),(some (49,true))⟩,⟨(some 52),(.mov (.tmp 0)),(some (49,true))⟩,⟨(some 53),(.lenS (.tmp 52)),(some (49,true))⟩,⟨(some 54),(.bin .lss (.tmp 51) (.tmp 53)),(some (49,true))⟩,(oP 55 (.pick (.tmp 49) (.tmp 54) kF)),(mV 56 55),⟨(some 57),(.mov (.tmp 0)),(some (56,true))⟩,⟨(some 58),(.mov (.tmp 4)),(some (56,true))⟩,⟨(some 59),(.bin .add (.tmp 58) (kI 1)),(some (56,true))⟩,⟨(some 60),(.idxS (.tmp 57) (.tmp 59)),(some (56,true))⟩,⟨(some 61),(.call 97 [(.tmp 60)]),(some (56,true))⟩,(oP 62 (.pick (.tmp 56) (.tmp 61) kF))]
 a86_c5)
 a86_c9))))))
def a86:AFunc:=⟨1,[(.tmp 2),(.tmp 3)],(sr [(oP 2 (.mov (kI 0))),(oP 3 (.mov (kI 0)))]
 (sr [(oP 4 (.mov (kI 0)))]
 (.seq (sr [(mV 9 0),(oP 10 (.call 83 [(.tmp 9),(kI 0)])),(oP 11 (.bin .eql (.tmp 10) (.const (.c (.val (.int .u8 43)))))),(mV 12 11),⟨(some 13),(.mov (.tmp 0)),(some (12,false))⟩,⟨(some 14),(.call 83 [(.tmp 13),(kI 0)]),(some (12,false))⟩,⟨(some 15),(.bin .eql (.tmp 14) (.const (.c (.val (.int .u8 45))))),(some (12,false))⟩,(oP 16 (.pick (.tmp 12) kT (.tmp 15)))]
 a86_c0)
 a86_c1)))⟩
theorem c86:compFunc Tryz.prog 86=some a86:=by kernel_rfl
def Zy (r:(Int×Int)):AV→Heap→Nat→Prop:=fun v h' n' => v=(.tup [(I r.1),(I r.2)])∧(h' = e0)∧n' = 0
abbrev Zay (s_:Tx) (i_:Int) (F_:Int→Int→Option (Int×Int)) (o:(Int×Int)) (R_:St→Prop):Prop:=∀(i_1:Int) (n_:Int),F_ i_1 n_=some o→∀ s,Weak 0 s ⟨(ue [(6,(I n_)),(5,(I i_)),(4,(I i_1)),(0,(S s_))]),e0,0⟩→R_ s
abbrev Zaz (s_:Tx) (i_:Int) (F_:Int→Int→Option (Int×Int)) (o:(Int×Int)) (R_:St→Prop):Prop:=∀(i_2:Int) (n_1:Int),F_ i_2 n_1=some o→∀ s,Weak 0 s ⟨(ue [(6,(I n_1)),(5,(I i_)),(4,(I i_2)),(0,(S s_))]),e0,0⟩→R_ s
abbrev Zfx (mL:Int) (Q:AExit→St→Prop):AExit→St→Prop:=AThen (Sv Tryz.prog (GG mL) 0 a86_c3 Q) Q
noncomputable def Z4v (s_:Tx) (i_1:Int) (n_:Int) (i_:Int) (self:Int→Int→Option (Int×Int)) (K0_:Int→Int→Option (Int×Int)) (v27:Bool):Option (Int×Int) :=
 if v27 then
  (at? s_ i_1).bind fun c_ =>
  self (wi (i_1+1)) (mn (wi ((wi (10 * n_))+(wr .i64 (wr .u8 ((c_.toNat:Int) - 48))))) 1000000000)
 else
  K0_ i_1 n_
theorem Zb0 {mL:Int}{Q:AExit→St→Prop}{s_:Tx}{i_1:Int}{n_:Int}{i_:Int}{self:Int→Int→Option (Int×Int)}{K0_:Int→Int→Option (Int×Int)}{v27:Bool}{o:(Int×Int)}(h:Z4v s_ i_1 n_ i_ self K0_ v27=some o)
  (hself:Zay s_ i_ self o (Q .normal))
  (hK0:Zaz s_ i_ K0_ o (Q (.exit 0)))
  (hr:∀ s,Ends a86.results 0 (Zy o) .ret s→Q .ret s) :
  Sv Tryz.prog (GG mL) 0 a86_c2 (Zfx mL Q) ⟨(ue [(27,(B v27)),(6,(I n_)),(5,(I i_)),(4,(I i_1)),(0,(S s_))]),e0,0⟩:=by
 unfold Z4v at h
 refine Sv.cnd rfl h (fun h=>?_) fun h=>?_
 ·refine Sv.skip<|Sv.block<|ssr<|un1 rfl<|un1 (v:=(I (wi (10 * n_)))) rfl<|un1 rfl<|un1 rfl ?_
  obtain ⟨c_,hx1,h⟩:=bnd h
  refine un1 (v:=(.c (.val (.int .u8 (c_.toNat:Int))))) (s_idxS rfl rfl hx1)<|un1 (v:=(.c (.val (.int .u8 (wr .u8 ((c_.toNat:Int) - 48)))))) rfl<|un1 (v:=(I (wr .i64 (wr .u8 ((c_.toNat:Int) - 48))))) rfl<|un1 (v:=(I (wi ((wi (10 * n_))+(wr .i64 (wr .u8 ((c_.toNat:Int) - 48))))))) rfl<|un1 (v:=(I (mn (wi ((wi (10 * n_))+(wr .i64 (wr .u8 ((c_.toNat:Int) - 48))))) 1000000000))) (s_mn rfl rfl)<|un1 rfl<|dnil<|srg<|un1 rfl<|un1 (v:=(I (wi (i_1+1)))) rfl<|un1 rfl<|dnil ?_
  exact hself (wi (i_1+1)) (mn (wi ((wi (10 * n_))+(wr .i64 (wr .u8 ((c_.toNat:Int) - 48))))) 1000000000) h _ (wcn [] rfl (.cf rfl rfl (.cf rfl rfl (.cf rfl rfl (.cf rfl rfl .nil)))) .nil)
 ·refine Sv.exit ?_
  exact hK0 i_1 n_ h _ (wcn [] rfl (.cf rfl rfl (.cf rfl rfl (.cf rfl rfl (.cf rfl rfl .nil)))) .nil)
abbrev Zb1 (s_:Tx) (i_:Int) (F_:Nat→Int→Int→Option (Int×Int)) (o:(Int×Int)):Nat→St→Prop:=fun k s=>∃(i_1:Int),∃(n_:Int),F_ k i_1 n_=some o∧s=⟨(ue [(6,(I n_)),(5,(I i_)),(4,(I i_1)),(0,(S s_))]),e0,0⟩
noncomputable def Z13 (s_:Tx) (i_:Int) (K0_:Int→Int→Option (Int×Int)):Nat→Int→Int→Option (Int×Int)
 | 0,_,_=>none
 | k+1,i_1,n_ =>
  if decide (i_1<(s_.length:Int)) then
   (at? s_ i_1).bind fun c_1 =>
   Z4v s_ i_1 n_ i_ (Z13 s_ i_ K0_ k) K0_ (Zd (c_1.toNat:Int))
  else
   Z4v s_ i_1 n_ i_ (Z13 s_ i_ K0_ k) K0_ false
theorem Zfy {mL:Int}{Q:AExit→St→Prop}{s_:Tx}{i_:Int}{K0_:Int→Int→Option (Int×Int)}{k:Nat}{i_1:Int}{n_:Int}{o:(Int×Int)}(h:Z13 s_ i_ K0_ k i_1 n_=some o)
  (hK0:Zaz s_ i_ K0_ o (Q (.exit 0)))
  (hr:∀ s,Ends a86.results 0 (Zy o) .ret s→Q .ret s) :
  Sv Tryz.prog (GG mL) 0 (.loop a86_c4) Q ⟨(ue [(6,(I n_)),(5,(I i_)),(4,(I i_1)),(0,(S s_))]),e0,0⟩:=by
 refine Sv.loop (I:=Zb1 s_ i_ (Z13 s_ i_ K0_) o) (fun k s hI=>?_) ⟨i_1,n_,h,rfl⟩
 clear h
 clear n_ i_1
 obtain ⟨i_1,n_,h,rfl⟩:=hI
 cases k with
 | zero=>cases h
 | succ k =>
 rw [Z13] at h
 have hself:Zay s_ i_ (Z13 s_ i_ K0_ k) o (rnd 0 (Zb1 s_ i_ (Z13 s_ i_ K0_) o) k Q):=fun i_1 n_ h s hw=>⟨_,k,hw,Nat.lt_succ_self k,i_1,n_,h,rfl⟩
 refine Sv.seq<|ssr<|un1 rfl<|un1 rfl<|un1 (v:=(I (s_.length:Int))) rfl<|un1 (v:=(B (decide (i_1<(s_.length:Int))))) rfl<|un1 rfl ?_
 refine spl h (fun h=>?_) fun h=>?_
 ·refine gt rfl<|a1 rfl<|gt rfl<|a1 rfl ?_
  obtain ⟨c_1,hx2,h⟩:=bnd h
  refine gt rfl<|a1 (v:=(.c (.val (.int .u8 (c_1.toNat:Int))))) (s_idxS rfl rfl hx2)<|gt rfl<|ac_pure (Z68 (mL:=mL) (c_1.toNat:Int)) rfl rfl rfl<|un1 (v:=(B (Zd (c_1.toNat:Int)))) rfl<|dnil ?_
  exact Sv.weak (wcn [] rfl (.cf rfl rfl (.cf rfl rfl (.cf rfl rfl (.cf rfl rfl (.cf rfl rfl .nil))))) .nil) (Zb0 h hself hK0 hr)
 ·refine gs rfl rfl<|gs rfl rfl<|gs rfl rfl<|gs rfl rfl<|un1 (v:=(B false)) rfl<|dnil ?_
  exact Sv.weak (wcn [] rfl (.cf rfl rfl (.cf rfl rfl (.cf rfl rfl (.cf rfl rfl (.cf rfl rfl .nil))))) .nil) (Zb0 h hself hK0 hr)
noncomputable def Z4w (i_3:Int) (n_3:Int):Option (Int×Int) :=
 some (n_3,i_3)
theorem Zb2 {mL:Int}{i_3:Int}{n_3:Int}{o:(Int×Int)}(h:Z4w i_3 n_3=some o) :
  Sv Tryz.prog (GG mL) 0 a86_c10 (Ends a86.results 0 (Zy o)) ⟨(ue [(6,(I n_3)),(4,(I i_3))]),e0,0⟩:=by
 unfold Z4w at h
 refine ssr<|un1 rfl<|un1 rfl<|un1 rfl<|un1 rfl<|dnil<|Sv.ret ?_
 exact rt0 h rfl rfl ⟨rfl,rfl,rfl⟩
noncomputable def Z3v (s_:Tx) (i_3:Int) (n_2:Int) (many:Int):Option (Int×Int) :=
 if decide (many=0) then
  some (0,0)
 else
  (at? s_ 0).bind fun c_2 =>
  if decide ((c_2.toNat:Int)=45) then
   Z4w i_3 (wi (0 - n_2))
  else
   Z4w i_3 n_2
theorem Zb3 {mL:Int}{s_:Tx}{i_3:Int}{n_2:Int}{many:Int}{o:(Int×Int)}(h:Z3v s_ i_3 n_2 many=some o) :
  Sv Tryz.prog (GG mL) 0 a86_c9 (Ends a86.results 0 (Zy o)) ⟨(ue [(7,(I many)),(6,(I n_2)),(4,(I i_3)),(0,(S s_))]),e0,0⟩:=by
 unfold Z3v at h
 refine Sv.seq<|ssr<|un1 rfl<|un1 (v:=(B (decide (many=0)))) rfl<|dnil ?_
 refine Sv.cnd rfl h (fun h=>?_) fun h=>?_
 ·refine ssr<|un1 rfl<|un1 rfl<|dnil<|Sv.ret ?_
  exact rt0 h rfl rfl ⟨rfl,rfl,rfl⟩
 ·refine Sv.skip<|Sv.seq<|ssr<|un1 rfl ?_
  obtain ⟨c_2,hx3,h⟩:=bnd h
  refine un1 (v:=(.c (.val (.int .u8 (c_2.toNat:Int))))) (s_idxS rfl rfl hx3)<|un1 (v:=(B (decide ((c_2.toNat:Int)=45)))) rfl<|dnil ?_
  refine Sv.cnd rfl h (fun h=>?_) fun h=>?_
  ·refine srg<|un1 rfl<|un1 (v:=(I (wi (0 - n_2)))) rfl<|un1 rfl<|dnil ?_
   exact Sv.weak (wcn [] rfl (.cf rfl rfl (.cf rfl rfl .nil)) .nil) (Zb2 h)
  ·refine Sv.skip ?_
   exact Sv.weak (wcn [] rfl (.cf rfl rfl (.cf rfl rfl .nil)) .nil) (Zb2 h)
abbrev Zb4 (s_:Tx) (F_:Int→Int→Int→Int→Option (Int×Int)) (o:(Int×Int)) (R_:St→Prop):Prop:=∀(i_4:Int) (n_4:Int) (many1:Int) (unit:Int),F_ i_4 n_4 many1 unit=some o→∀ s,Weak 0 s ⟨(ue [(8,(I unit)),(7,(I many1)),(6,(I n_4)),(4,(I i_4)),(0,(S s_))]),e0,0⟩→R_ s
abbrev Zb5 (s_:Tx) (F_:Int→Int→Int→Option (Int×Int)) (o:(Int×Int)) (R_:St→Prop):Prop:=∀(i_5:Int) (n_5:Int) (many2:Int),F_ i_5 n_5 many2=some o→∀ s,Weak 0 s ⟨(ue [(7,(I many2)),(6,(I n_5)),(4,(I i_5)),(0,(S s_))]),e0,0⟩→R_ s
abbrev Zfz (mL:Int) (Q:AExit→St→Prop):AExit→St→Prop:=AThen (Sv Tryz.prog (GG mL) 0 a86_c7 Q) Q
noncomputable def Z4x (s_:Tx) (i_4:Int) (n_4:Int) (unit:Int) (many1:Int) (self:Int→Int→Int→Int→Option (Int×Int)) (K2_:Int→Int→Int→Option (Int×Int)) (v74:Bool):Option (Int×Int) :=
 if v74 then
  (at? s_ i_4).bind fun c_3 =>
  self (wi (i_4+1)) (mn (wi (n_4+(wi (unit * (wr .i64 (wr .u8 ((c_3.toNat:Int) - 48))))))) 1000000000) (wi (many1+1)) (wi (unit.tdiv 10))
 else
  K2_ i_4 n_4 many1
theorem Zb6 {mL:Int}{Q:AExit→St→Prop}{s_:Tx}{i_4:Int}{n_4:Int}{unit:Int}{many1:Int}{self:Int→Int→Int→Int→Option (Int×Int)}{K2_:Int→Int→Int→Option (Int×Int)}{v74:Bool}{o:(Int×Int)}(h:Z4x s_ i_4 n_4 unit many1 self K2_ v74=some o)
  (hself:Zb4 s_ self o (Q .normal))
  (hK2:Zb5 s_ K2_ o (Q (.exit 2)))
  (hr:∀ s,Ends a86.results 0 (Zy o) .ret s→Q .ret s) :
  Sv Tryz.prog (GG mL) 0 a86_c6 (Zfz mL Q) ⟨(ue [(74,(B v74)),(8,(I unit)),(7,(I many1)),(6,(I n_4)),(4,(I i_4)),(0,(S s_))]),e0,0⟩:=by
 unfold Z4x at h
 refine Sv.cnd rfl h (fun h=>?_) fun h=>?_
 ·refine Sv.skip<|Sv.block<|ssr<|un1 rfl<|un1 rfl<|un1 rfl<|un1 rfl ?_
  obtain ⟨c_3,hx4,h⟩:=bnd h
  refine un1 (v:=(.c (.val (.int .u8 (c_3.toNat:Int))))) (s_idxS rfl rfl hx4)<|un1 (v:=(.c (.val (.int .u8 (wr .u8 ((c_3.toNat:Int) - 48)))))) rfl<|un1 (v:=(I (wr .i64 (wr .u8 ((c_3.toNat:Int) - 48))))) rfl<|un1 (v:=(I (wi (unit * (wr .i64 (wr .u8 ((c_3.toNat:Int) - 48))))))) rfl<|un1 (v:=(I (wi (n_4+(wi (unit * (wr .i64 (wr .u8 ((c_3.toNat:Int) - 48))))))))) rfl<|un1 (v:=(I (mn (wi (n_4+(wi (unit * (wr .i64 (wr .u8 ((c_3.toNat:Int) - 48))))))) 1000000000))) (s_mn rfl rfl)<|un1 rfl<|dnil<|ssr<|un1 rfl<|un1 (v:=(I (wi (unit.tdiv 10)))) rfl<|un1 rfl<|dnil<|ssr<|un1 rfl<|un1 (v:=(I (wi (many1+1)))) rfl<|un1 rfl<|dnil<|srg<|un1 rfl<|un1 (v:=(I (wi (i_4+1)))) rfl<|un1 rfl<|dnil ?_
  exact hself (wi (i_4+1)) (mn (wi (n_4+(wi (unit * (wr .i64 (wr .u8 ((c_3.toNat:Int) - 48))))))) 1000000000) (wi (many1+1)) (wi (unit.tdiv 10)) h _ (wcn [] rfl (.cf rfl rfl (.cf rfl rfl (.cf rfl rfl (.cf rfl rfl (.cf rfl rfl .nil))))) .nil)
 ·refine Sv.exit ?_
  exact hK2 i_4 n_4 many1 h _ (wcn [] rfl (.cf rfl rfl (.cf rfl rfl (.cf rfl rfl (.cf rfl rfl .nil)))) .nil)
abbrev Zb7 (s_:Tx) (F_:Nat→Int→Int→Int→Int→Option (Int×Int)) (o:(Int×Int)):Nat→St→Prop:=fun k s=>∃(i_4:Int),∃(n_4:Int),∃(many1:Int),∃(unit:Int),F_ k i_4 n_4 many1 unit=some o∧s=⟨(ue [(8,(I unit)),(7,(I many1)),(6,(I n_4)),(4,(I i_4)),(0,(S s_))]),e0,0⟩
noncomputable def Z14 (s_:Tx) (K2_:Int→Int→Int→Option (Int×Int)):Nat→Int→Int→Int→Int→Option (Int×Int)
 | 0,_,_,_,_=>none
 | k+1,i_4,n_4,many1,unit =>
  if decide (i_4<(s_.length:Int)) then
   (at? s_ i_4).bind fun c_4 =>
   Z4x s_ i_4 n_4 unit many1 (Z14 s_ K2_ k) K2_ (Zd (c_4.toNat:Int))
  else
   Z4x s_ i_4 n_4 unit many1 (Z14 s_ K2_ k) K2_ false
theorem Zg0 {mL:Int}{Q:AExit→St→Prop}{s_:Tx}{K2_:Int→Int→Int→Option (Int×Int)}{k:Nat}{i_4:Int}{n_4:Int}{many1:Int}{unit:Int}{o:(Int×Int)}(h:Z14 s_ K2_ k i_4 n_4 many1 unit=some o)
  (hK2:Zb5 s_ K2_ o (Q (.exit 2)))
  (hr:∀ s,Ends a86.results 0 (Zy o) .ret s→Q .ret s) :
  Sv Tryz.prog (GG mL) 0 (.loop a86_c8) Q ⟨(ue [(8,(I unit)),(7,(I many1)),(6,(I n_4)),(4,(I i_4)),(0,(S s_))]),e0,0⟩:=by
 refine Sv.loop (I:=Zb7 s_ (Z14 s_ K2_) o) (fun k s hI=>?_) ⟨i_4,n_4,many1,unit,h,rfl⟩
 clear h
 clear unit many1 n_4 i_4
 obtain ⟨i_4,n_4,many1,unit,h,rfl⟩:=hI
 cases k with
 | zero=>cases h
 | succ k =>
 rw [Z14] at h
 have hself:Zb4 s_ (Z14 s_ K2_ k) o (rnd 0 (Zb7 s_ (Z14 s_ K2_) o) k Q):=fun i_4 n_4 many1 unit h s hw=>⟨_,k,hw,Nat.lt_succ_self k,i_4,n_4,many1,unit,h,rfl⟩
 refine Sv.seq<|ssr<|un1 rfl<|un1 rfl<|un1 (v:=(I (s_.length:Int))) rfl<|un1 (v:=(B (decide (i_4<(s_.length:Int))))) rfl<|un1 rfl ?_
 refine spl h (fun h=>?_) fun h=>?_
 ·refine gt rfl<|a1 rfl<|gt rfl<|a1 rfl ?_
  obtain ⟨c_4,hx5,h⟩:=bnd h
  refine gt rfl<|a1 (v:=(.c (.val (.int .u8 (c_4.toNat:Int))))) (s_idxS rfl rfl hx5)<|gt rfl<|ac_pure (Z68 (mL:=mL) (c_4.toNat:Int)) rfl rfl rfl<|un1 (v:=(B (Zd (c_4.toNat:Int)))) rfl<|dnil ?_
  exact Sv.weak (wcn [] rfl (.cf rfl rfl (.cf rfl rfl (.cf rfl rfl (.cf rfl rfl (.cf rfl rfl (.cf rfl rfl .nil)))))) .nil) (Zb6 h hself hK2 hr)
 ·refine gs rfl rfl<|gs rfl rfl<|gs rfl rfl<|gs rfl rfl<|un1 (v:=(B false)) rfl<|dnil ?_
  exact Sv.weak (wcn [] rfl (.cf rfl rfl (.cf rfl rfl (.cf rfl rfl (.cf rfl rfl (.cf rfl rfl (.cf rfl rfl .nil)))))) .nil) (Zb6 h hself hK2 hr)
abbrev Zg1 (mL:Int) (o:(Int×Int)):AExit→St→Prop:=AThen (Sv Tryz.prog (GG mL) 0 a86_c9 (Ends a86.results 0 (Zy o))) (Ends a86.results 0 (Zy o))
noncomputable def Z3w (s_:Tx) (i_2:Int) (n_1:Int) (i_:Int) (v62:Bool):Option (Int×Int) :=
 if v62 then
  limF fun kk=>Z14 s_ (fun (i_5:Int) (n_5:Int) (many2:Int) => 
    Z3v s_ i_5 n_5 many2) kk (wi (i_2+1)) (mn (wi (1000 * n_1)) 1000000000) (wi (i_2 - i_)) 100
 else
  Z3v s_ i_2 (mn (wi (1000 * n_1)) 1000000000) (wi (i_2 - i_))
theorem Zb8 {mL:Int}{s_:Tx}{i_2:Int}{n_1:Int}{i_:Int}{v62:Bool}{o:(Int×Int)}(h:Z3w s_ i_2 n_1 i_ v62=some o) :
  Sv Tryz.prog (GG mL) 0 a86_c5 (Zg1 mL o) ⟨(ue [(62,(B v62)),(7,(I (wi (i_2 - i_)))),(6,(I (mn (wi (1000 * n_1)) 1000000000))),(4,(I i_2)),(0,(S s_))]),e0,0⟩:=by
 unfold Z3w at h
 refine Sv.cnd rfl h (fun h=>?_) fun h=>?_
 ·refine ssr<|un1 rfl<|un1 (v:=(I (wi (i_2+1)))) rfl<|un1 rfl<|dnil<|ssr<|un1 rfl<|dnil<|Sv.block ?_
  obtain ⟨kk,h⟩:=limF_some h
  refine Sv.weak (wcn [] rfl (.cf rfl rfl (.cf rfl rfl (.cf rfl rfl (.cf rfl rfl (.cf rfl rfl .nil))))) .nil) (Zg0 h ?_ (fun s hs=>hs))
  ·intro i_5 n_5 many2 h _ hw2
   exact Sv.weak (hw2.trans (wcn [] rfl (.cf rfl rfl (.cf rfl rfl (.cf rfl rfl (.cf rfl rfl .nil)))) .nil)) (Zb3 h)
 ·refine Sv.skip ?_
  exact Sv.weak (wcn [] rfl (.cf rfl rfl (.cf rfl rfl (.cf rfl rfl (.cf rfl rfl .nil)))) .nil) (Zb3 h)
noncomputable def Z3x (s_:Tx) (i_:Int):Option (Int×Int) :=
 limF fun kk1=>Z13 s_ i_ (fun (i_2:Int) (n_1:Int) => 
   (Zm s_ i_2).bind fun r_ =>
   if ((decide (r_=46))&&(decide ((wi (i_2+1))<(s_.length:Int)))) then
    (at? s_ (wi (i_2+1))).bind fun c_5 =>
    Z3w s_ i_2 n_1 i_ (Zd (c_5.toNat:Int))
   else
    Z3w s_ i_2 n_1 i_ false) kk1 i_ 0
theorem Zb9 {mL:Int}{s_:Tx}{i_:Int}{o:(Int×Int)}(h:Z3x s_ i_=some o) :
  Sv Tryz.prog (GG mL) 0 a86_c1 (Ends a86.results 0 (Zy o)) ⟨(ue [(4,(I i_)),(0,(S s_))]),e0,0⟩:=by
 unfold Z3x at h
 refine ssr<|un1 rfl<|un1 rfl<|dnil<|ssr<|un1 rfl<|dnil<|Sv.seq<|Sv.block ?_
 obtain ⟨kk1,h⟩:=limF_some h
 refine Sv.weak (wcn [] rfl (.cf rfl rfl (.cf rfl rfl (.cf rfl rfl (.cf rfl rfl .nil)))) .nil) (Zfy h ?_ (fun s hs=>hs))
 ·intro i_2 n_1 h _ hw1
  refine Sv.weak hw1<|ssr<|un1 rfl<|un1 rfl<|un1 (v:=(I (wi (i_2 - i_)))) rfl<|un1 rfl<|dnil<|ssr<|un1 rfl<|un1 (v:=(I (wi (1000 * n_1)))) rfl<|un1 (v:=(I (mn (wi (1000 * n_1)) 1000000000))) (s_mn rfl rfl)<|un1 rfl<|dnil<|Sv.seq<|ssr<|un1 rfl<|un1 rfl ?_
  obtain ⟨r_,hr1,h⟩:=bnd h
  refine un<|ac_pure (Z1u hr1) rfl rfl rfl<|un1 (v:=(B (decide (r_=46)))) rfl<|un1 rfl ?_
  refine gjoin 6 (d:=55) (v:=(B ((decide (r_=46))&&(decide ((wi (i_2+1))<(s_.length:Int)))))) (fun X hX=>?_) ?_
  ·refine split2 (fun hc8=>?_) (fun hc8=>?_)
   ·refine gt rfl<|a1 rfl<|gt rfl<|a1 (v:=(I (wi (i_2+1)))) rfl<|gt rfl<|a1 rfl<|gt rfl<|a1 (v:=(I (s_.length:Int))) rfl<|gt rfl<|a1 (v:=(B (decide ((wi (i_2+1))<(s_.length:Int))))) rfl<|un1 (v:=(B (decide ((wi (i_2+1))<(s_.length:Int))))) rfl<|dnil ?_
    exact hX _ (.putEq (by rw [hc8]; rfl) (by repeat (first | exact .putEq (by rw [hc8]) (.refl _) | refine .skp ?_ rfl)))
   ·repeat (first | refine gu rfl ?_ | refine gs rfl rfl ?_)
    refine un1 (v:=(B false)) rfl<|dnil ?_
    exact hX _ (.putEq (by rw [hc8]; rfl) (by repeat (first | exact .putEq (by rw [hc8]) (.refl _) | refine .skp ?_ rfl)))
  refine un1 rfl ?_
  refine spl h (fun h=>?_) fun h=>?_
  ·refine gt rfl<|a1 rfl<|gt rfl<|a1 rfl<|gt rfl<|a1 (v:=(I (wi (i_2+1)))) rfl ?_
   obtain ⟨c_5,hx6,h⟩:=bnd h
   refine gt rfl<|a1 (v:=(.c (.val (.int .u8 (c_5.toNat:Int))))) (s_idxS rfl rfl hx6)<|gt rfl<|ac_pure (Z68 (mL:=mL) (c_5.toNat:Int)) rfl rfl rfl<|un1 (v:=(B (Zd (c_5.toNat:Int)))) rfl<|dnil ?_
   exact Sv.weak (wcn [] rfl (.cf rfl rfl (.cf rfl rfl (.cf rfl rfl (.cf rfl rfl (.cf rfl rfl .nil))))) .nil) (Zb8 h)
  ·repeat (first | refine gu rfl ?_ | refine gs rfl rfl ?_)
   refine un1 (v:=(B false)) rfl<|dnil ?_
   exact Sv.weak (wcn [] rfl (.cf rfl rfl (.cf rfl rfl (.cf rfl rfl (.cf rfl rfl (.cf rfl rfl .nil))))) .nil) (Zb8 h)
abbrev Zg2 (mL:Int) (o:(Int×Int)):AExit→St→Prop:=AThen (Sv Tryz.prog (GG mL) 0 a86_c1 (Ends a86.results 0 (Zy o))) (Ends a86.results 0 (Zy o))
noncomputable def Z4y (s_:Tx) (v16:Bool):Option (Int×Int) :=
 if v16 then
  Z3x s_ 1
 else
  Z3x s_ 0
theorem Zba {mL:Int}{s_:Tx}{v16:Bool}{o:(Int×Int)}(h:Z4y s_ v16=some o) :
  Sv Tryz.prog (GG mL) 0 a86_c0 (Zg2 mL o) ⟨(ue [(16,(B v16)),(4,(I 0)),(0,(S s_))]),e0,0⟩:=by
 unfold Z4y at h
 refine Sv.cnd rfl h (fun h=>?_) fun h=>?_
 ·refine srg<|un1 rfl<|dnil ?_
  exact Sv.weak (wcn [] rfl (.cf rfl rfl (.cf rfl rfl .nil)) .nil) (Zb9 h)
 ·refine Sv.skip ?_
  exact Sv.weak (wcn [] rfl (.cf rfl rfl (.cf rfl rfl .nil)) .nil) (Zb9 h)
noncomputable def Z4z (s_:Tx):Option (Int×Int) :=
 (Zm s_ 0).bind fun r_1 =>
 if decide (r_1=43) then
  Z4y s_ true
 else
  (Zm s_ 0).bind fun r_2 =>
  Z4y s_ (decide (r_2=45))
theorem Zg3 {mL:Int}{s_:Tx}{r:(Int×Int)}(h:Z4z s_=some r):CPure Tryz.prog (GG mL) 86 [(S s_)] (.tup [(I r.1),(I r.2)]):=by
 refine acalls_of_sv hmix c86 (R:=Zy r) ?_
 unfold Z4z at h
 refine ssr<|un1 rfl<|un1 rfl<|dnil<|ssr<|un1 rfl<|dnil<|Sv.seq<|ssr<|un1 rfl ?_
 obtain ⟨r_1,hr2,h⟩:=bnd h
 refine un<|ac_pure (Z1u hr2) rfl rfl rfl<|un1 (v:=(B (decide (r_1=43)))) rfl<|un1 rfl ?_
 refine spl h (fun h=>?_) fun h=>?_
 ·refine gs rfl rfl<|gs rfl rfl<|gs rfl rfl<|un1 (v:=(B true)) rfl<|dnil ?_
  exact Sv.weak (wcn [] rfl (.cf rfl rfl (.cf rfl rfl (.cf rfl rfl .nil))) .nil) (Zba h)
 ·refine gt rfl<|a1 rfl ?_
  obtain ⟨r_2,hr3,h⟩:=bnd h
  refine gt rfl<|ac_pure (Z1u hr3) rfl rfl rfl<|gt rfl<|a1 (v:=(B (decide (r_2=45)))) rfl<|un1 (v:=(B (decide (r_2=45)))) rfl<|dnil ?_
  exact Sv.weak (wcn [] rfl (.cf rfl rfl (.cf rfl rfl (.cf rfl rfl .nil))) .nil) (Zba h)
def a98:AFunc:=⟨1,[(.tmp 2)],(sr [(oP 2 (.mov kF))]
 (sr [(mV 3 0),(oP 4 (.bin .geq (.tmp 3) (.const (.c (.val (.int .u8 97)))))),(mV 5 4),⟨(some 6),(.mov (.tmp 0)),(some (5,true))⟩,⟨(some 7),(.bin .leq (.tmp 6) (.const (.c (.val (.int .u8 122))))),(some (5,true))⟩,(oP 8 (.pick (.tmp 5) (.tmp 7) kF)),(mV 9 8),⟨(some 10),(.mov (.tmp 0)),(some (9,false))⟩,⟨(some 11),(.bin .geq (.tmp 10) (.const (.c (.val (.int .u8 65))))),(some (9,false))⟩,⟨(some 12),(.mov (.tmp 11)),(some (9,false))⟩,⟨(some 13),(.mov (.tmp 0)),(some (12,true))⟩,⟨(some 14),(.bin .leq (.tmp 13) (.const (.c (.val (.int .u8 90))))),(some (12,true))⟩,⟨(some 15),(.pick (.tmp 12) (.tmp 14) kF),(some (9,false))⟩,(oP 16 (.pick (.tmp 9) kT (.tmp 15))),(mV 17 16),⟨(some 18),(.mov (.tmp 0)),(some (17,false))⟩,⟨(some 19),(.bin .eql (.tmp 18) (.const (.c (.val (.int .u8 95))))),(some (17,false))⟩,(oP 20 (.pick (.tmp 17) kT (.tmp 19))),(mV 21 20),⟨(some 22),(.mov (.tmp 0)),(some (21,false))⟩,⟨(some 23),(.bin .geq (.tmp 22) (.const (.c (.val (.int .u8 128))))),(some (21,false))⟩,(oP 24 (.pick (.tmp 21) kT (.tmp 23))),(mV 2 24)]
 .ret))⟩
theorem c98:compFunc Tryz.prog 98=some a98:=by kernel_rfl
def Zg4 (r:Bool):AV→Heap→Nat→Prop:=fun v h' n' => v=(B r)∧(h' = e0)∧n' = 0
def Zn (c_:Int):Bool :=
 (((((decide (97≤c_))&&(decide (c_≤122)))||((decide (65≤c_))&&(decide (c_≤90))))||(decide (c_=95)))||(decide (128≤c_)))
theorem Z7t {mL:Int}(c_:Int):CPure Tryz.prog (GG mL) 98 [(.c (.val (.int .u8 c_)))] (B (Zn c_)):=by
 generalize h:Zn c_=o
 refine acalls_of_sv hmix c98 (R:=Zg4 o) ?_
 unfold Zn at h
 refine ssr<|un1 rfl<|dnil<|ssr<|un1 rfl<|un1 (v:=(B (decide (97≤c_)))) rfl<|un1 rfl ?_
 refine gjoin 3 (d:=8) (v:=(B ((decide (97≤c_))&&(decide (c_≤122))))) (fun X hX=>?_) ?_
 ·refine split2 (fun hc1=>?_) (fun hc1=>?_)
  ·refine gt rfl<|a1 rfl<|gt rfl<|a1 (v:=(B (decide (c_≤122)))) rfl<|un1 (v:=(B (decide (c_≤122)))) rfl<|dnil ?_
   exact hX _ (.putEq (by rw [hc1]; rfl) (.skp (.skp (.putEq (by rw [hc1]) (.refl _)) rfl) rfl))
  ·refine gs rfl rfl<|gs rfl rfl<|un1 (v:=(B false)) rfl<|dnil ?_
   exact hX _ (.putEq (by rw [hc1]; rfl) (.skp (.skp (.putEq (by rw [hc1]) (.refl _)) rfl) rfl))
 refine un1 rfl ?_
 refine gjoin 7 (d:=16) (v:=(B (((decide (97≤c_))&&(decide (c_≤122)))||((decide (65≤c_))&&(decide (c_≤90)))))) (fun X hX=>?_) ?_
 ·refine split2 (fun hc3=>?_) (fun hc3=>?_)
  ·repeat (first | refine gu rfl ?_ | refine gs rfl rfl ?_)
   refine un1 (v:=(B true)) rfl<|dnil ?_
   exact hX _ (.putEq (by rw [hc3]; rfl) (by repeat (first | exact .putEq (by rw [hc3]) (.refl _) | refine .skp ?_ rfl)))
  ·refine gt rfl<|a1 rfl<|gt rfl<|a1 (v:=(B (decide (65≤c_)))) rfl<|gt rfl<|a1 rfl ?_
   refine gjoin 3 (d:=15) (v:=(B ((decide (65≤c_))&&(decide (c_≤90))))) (fun X hX=>?_) ?_
   ·refine split2 (fun hc2=>?_) (fun hc2=>?_)
    ·refine gt rfl<|a1 rfl<|gt rfl<|a1 (v:=(B (decide (c_≤90)))) rfl<|gt rfl<|a1 (v:=(B (decide (c_≤90)))) rfl<|dnil ?_
     exact hX _ (.putEq (by rw [hc2]; rfl) (.skp (.skp (.putEq (by rw [hc2]) (.refl _)) rfl) rfl))
    ·refine gs rfl rfl<|gs rfl rfl<|gt rfl<|a1 (v:=(B false)) rfl<|dnil ?_
     exact hX _ (.putEq (by rw [hc2]; rfl) (.skp (.skp (.putEq (by rw [hc2]) (.refl _)) rfl) rfl))
   refine un1 (v:=(B ((decide (65≤c_))&&(decide (c_≤90))))) rfl<|dnil ?_
   exact hX _ (.putEq (by rw [hc3]; rfl) (.skp (.skp (.skp (.skp (.putEq (by rw [hc3]) (.refl _)) rfl) rfl) rfl) rfl))
 refine un1 rfl ?_
 refine gjoin 3 (d:=20) (v:=(B ((((decide (97≤c_))&&(decide (c_≤122)))||((decide (65≤c_))&&(decide (c_≤90))))||(decide (c_=95))))) (fun X hX=>?_) ?_
 ·refine split2 (fun hc4=>?_) (fun hc4=>?_)
  ·refine gs rfl rfl<|gs rfl rfl<|un1 (v:=(B true)) rfl<|dnil ?_
   exact hX _ (.putEq (by rw [hc4]; rfl) (.skp (.skp (.putEq (by rw [hc4]) (.refl _)) rfl) rfl))
  ·refine gt rfl<|a1 rfl<|gt rfl<|a1 (v:=(B (decide (c_=95)))) rfl<|un1 (v:=(B (decide (c_=95)))) rfl<|dnil ?_
   exact hX _ (.putEq (by rw [hc4]; rfl) (.skp (.skp (.putEq (by rw [hc4]) (.refl _)) rfl) rfl))
 refine un1 rfl ?_
 refine gjoin 3 (d:=24) (v:=(B (((((decide (97≤c_))&&(decide (c_≤122)))||((decide (65≤c_))&&(decide (c_≤90))))||(decide (c_=95)))||(decide (128≤c_))))) (fun X hX=>?_) ?_
 ·refine split2 (fun hc5=>?_) (fun hc5=>?_)
  ·refine gs rfl rfl<|gs rfl rfl<|un1 (v:=(B true)) rfl<|dnil ?_
   exact hX _ (.putEq (by rw [hc5]; rfl) (.skp (.skp (.putEq (by rw [hc5]) (.refl _)) rfl) rfl))
  ·refine gt rfl<|a1 rfl<|gt rfl<|a1 (v:=(B (decide (128≤c_)))) rfl<|un1 (v:=(B (decide (128≤c_)))) rfl<|dnil ?_
   exact hX _ (.putEq (by rw [hc5]; rfl) (.skp (.skp (.putEq (by rw [hc5]) (.refl _)) rfl) rfl))
 refine un1 rfl<|dnil<|Sv.ret ?_
 subst h
 exact ⟨_,.refl _,_,rfl,⟨upd e0 0 (some (B (((((decide (97≤c_))&&(decide (c_≤122)))||((decide (65≤c_))&&(decide (c_≤90))))||(decide (c_=95)))||(decide (128≤c_))))),e0,0⟩,(B (((((decide (97≤c_))&&(decide (c_≤122)))||((decide (65≤c_))&&(decide (c_≤90))))||(decide (c_=95)))||(decide (128≤c_)))),weak_canon [] rfl ndl nll nlz (.cf rfl rfl .nil) .nil,rfl,rfl,rfl,rfl⟩
def a89_c0:ACode:=.ret
def a89:AFunc:=⟨2,[(.tmp 4)],(sr [(oP 4 (.mov kF))]
 (sr [(mV 5 0),(mV 6 1),(oP 7 (.call 83 [(.tmp 5),(.tmp 6)])),(oP 8 (.bin .eql (.tmp 7) (.const (.c (.val (.int .u8 92)))))),(mV 9 8),⟨(some 10),(.mov (.tmp 1)),(some (9,true))⟩,⟨(some 11),(.bin .add (.tmp 10) (kI 1)),(some (9,true))⟩,⟨(some 12),(.mov (.tmp 0)),(some (9,true))⟩,⟨(some 13),(.lenS (.tmp 12)),(some (9,true))⟩,⟨(some 14),(.bin .lss (.tmp 11) (.tmp 13)),(some (9,true))⟩,(oP 15 (.pick (.tmp 9) (.tmp 14) kF)),(mV 16 15),⟨(some 17),(.mov (.tmp 0)),(some (16,true))⟩,⟨(some 18),(.mov (.tmp 1)),(some (16,true))⟩,⟨(some 19),(.bin .add (.tmp 18) (kI 1)),(some (16,true))⟩,⟨(some 20),(.idxS (.tmp 17) (.tmp 19)),(some (16,true))⟩,⟨(some 21),(.bin .neq (.tmp 20) (.const (.c (.val (.int .u8 10))))),(some (16,true))⟩,(oP 22 (.pick (.tmp 16) (.tmp 21) kF)),(mV 4 22)]
 a89_c0))⟩
theorem c89:compFunc Tryz.prog 89=some a89:=by kernel_rfl
def Zbb (r:Bool):AV→Heap→Nat→Prop:=fun v h' n' => v=(B r)∧(h' = e0)∧n' = 0
noncomputable def Z50 (v4:Bool):Option Bool :=
 some v4
theorem Zbc {mL:Int}{v4:Bool}{o:Bool}(h:Z50 v4=some o) :
  Sv Tryz.prog (GG mL) 0 a89_c0 (Ends a89.results 0 (Zbb o)) ⟨(upd e0 4 (some (B v4))),e0,0⟩:=by
 unfold Z50 at h
 refine Sv.ret ?_
 exact rt0 h rfl rfl ⟨rfl,rfl,rfl⟩
noncomputable def Z1v (s_:Tx) (i_:Int):Option Bool :=
 (Zm s_ i_).bind fun r_ =>
 if ((decide (r_=92))&&(decide ((wi (i_+1))<(s_.length:Int)))) then
  (at? s_ (wi (i_+1))).bind fun c_ =>
  Z50 (!decide ((c_.toNat:Int)=10))
 else
  Z50 false
theorem Z51 {mL:Int}{s_:Tx}{i_:Int}{r:Bool}(h:Z1v s_ i_=some r):CPure Tryz.prog (GG mL) 89 [(S s_),(I i_)] (B r):=by
 refine acalls_of_sv hmix c89 (R:=Zbb r) ?_
 unfold Z1v at h
 refine ssr<|un1 rfl<|dnil<|ssr<|un1 rfl<|un1 rfl ?_
 obtain ⟨r_,hr1,h⟩:=bnd h
 refine un<|ac_pure (Z1u hr1) rfl rfl rfl<|un1 (v:=(B (decide (r_=92)))) rfl<|un1 rfl ?_
 refine gjoin 6 (d:=15) (v:=(B ((decide (r_=92))&&(decide ((wi (i_+1))<(s_.length:Int)))))) (fun X hX=>?_) ?_
 ·refine split2 (fun hc1=>?_) (fun hc1=>?_)
  ·refine gt rfl<|a1 rfl<|gt rfl<|a1 (v:=(I (wi (i_+1)))) rfl<|gt rfl<|a1 rfl<|gt rfl<|a1 (v:=(I (s_.length:Int))) rfl<|gt rfl<|a1 (v:=(B (decide ((wi (i_+1))<(s_.length:Int))))) rfl<|un1 (v:=(B (decide ((wi (i_+1))<(s_.length:Int))))) rfl<|dnil ?_
   exact hX _ (.putEq (by rw [hc1]; rfl) (by repeat (first | exact .putEq (by rw [hc1]) (.refl _) | refine .skp ?_ rfl)))
  ·repeat (first | refine gu rfl ?_ | refine gs rfl rfl ?_)
   refine un1 (v:=(B false)) rfl<|dnil ?_
   exact hX _ (.putEq (by rw [hc1]; rfl) (by repeat (first | exact .putEq (by rw [hc1]) (.refl _) | refine .skp ?_ rfl)))
 refine un1 rfl ?_
 refine spl h (fun h=>?_) fun h=>?_
 ·refine gt rfl<|a1 rfl<|gt rfl<|a1 rfl<|gt rfl<|a1 (v:=(I (wi (i_+1)))) rfl ?_
  obtain ⟨c_,hx1,h⟩:=bnd h
  refine gt rfl<|a1 (v:=(.c (.val (.int .u8 (c_.toNat:Int))))) (s_idxS rfl rfl hx1)<|gt rfl<|a1 (v:=(B (!decide ((c_.toNat:Int)=10)))) rfl<|un1 (v:=(B (!decide ((c_.toNat:Int)=10)))) rfl<|un1 rfl<|dnil ?_
  exact Sv.weak (wcn [] rfl (.cf rfl rfl .nil) .nil) (Zbc h)
 ·repeat (first | refine gu rfl ?_ | refine gs rfl rfl ?_)
  refine un1 (v:=(B false)) rfl<|un1 rfl<|dnil ?_
  exact Sv.weak (wcn [] rfl (.cf rfl rfl .nil) .nil) (Zbc h)
def a91_c0:ACode:=.ret
def a91_c2:ACode:=.ret
def a91_c1:ACode:=(sr [(mV 34 1),(mV 35 0),(oP 36 (.lenS (.tmp 35))),(oP 37 (.bin .lss (.tmp 34) (.tmp 36))),(mV 38 37),⟨(some 39),(.mov (.tmp 0)),(some (38,true))⟩,⟨(some 40),(.mov (.tmp 1)),(some (38,true))⟩,⟨(some 41),(.idxS (.tmp 39) (.tmp 40)),(some (38,true))⟩,⟨(some 42),(.call 98 [(.tmp 41)]),(some (38,true))⟩,(oP 43 (.pick (.tmp 38) (.tmp 42) kF)),(mV 44 43),⟨(some 45),(.mov (.tmp 0)),(some (44,false))⟩,⟨(some 46),(.mov (.tmp 1)),(some (44,false))⟩,⟨(some 47),(.call 89 [(.tmp 45),(.tmp 46)]),(some (44,false))⟩,(oP 48 (.pick (.tmp 44) kT (.tmp 47))),(mV 4 48)]
 a91_c2)
def a91:AFunc:=⟨2,[(.tmp 4)],(sr [(oP 4 (.mov kF))]
 (.seq (sr [(mV 5 0),(mV 6 1),(oP 7 (.call 83 [(.tmp 5),(.tmp 6)])),(oP 8 (.bin .eql (.tmp 7) (.const (.c (.val (.int .u8 45))))))]
 (.cond (.tmp 8) (sr [(mV 9 1),(oP 10 (.bin .add (.tmp 9) (kI 1))),(mV 11 0),(oP 12 (.lenS (.tmp 11))),(oP 13 (.bin .lss (.tmp 10) (.tmp 12))),(mV 14 13),⟨(some 15),(.mov (.tmp 0)),(some (14,true))⟩,⟨(some 16),(.mov (.tmp 1)),(some (14,true))⟩,⟨(some 17),(.bin .add (.tmp 16) (kI 1)),(some (14,true))⟩,⟨(some 18),(.idxS (.tmp 15) (.tmp 17)),(some (14,true))⟩,⟨(some 19),(.bin .eql (.tmp 18) (.const (.c (.val (.int .u8 45))))),(some (14,true))⟩,⟨(some 20),(.mov (.tmp 19)),(some (14,true))⟩,⟨(some 21),(.mov (.tmp 0)),(some (20,false))⟩,⟨(some 22),(.mov (.tmp 1)),(some (20,false))⟩,⟨(some 23),(.bin .add (.tmp 22) (kI 1)),(some (20,false))⟩,⟨(some 24),(.idxS (.tmp 21) (.tmp 23)),(some (20,false))⟩,⟨(some 25),(.call 98 [(.tmp 24)]),(some (20,false))⟩,⟨(some 26),(.pick (.tmp 20) kT (.tmp 25)),(some (14,true))⟩,⟨(some 27),(.mov (.tmp 26)),(some (14,true))⟩,⟨(some 28),(.mov (.tmp 0)),(some (27,false))⟩,⟨(some 29),(.mov (.tmp 1)),(some (27,false))⟩,⟨(some 30),(.bin .add (.tmp 29) (kI 1)),(some (27,false))⟩,⟨(some 31),(.call 89 [(.tmp 28),(.tmp 30)]),(some (27,false))⟩,⟨(some 32),(.pick (.tmp 27) kT (.tmp 31)),(some (14,true))⟩,(oP 33 (.pick (.tmp 14) (.tmp 32) kF)),(mV 4 33)]
 a91_c0) .skip))
 a91_c1))⟩
theorem c91:compFunc Tryz.prog 91=some a91:=by kernel_rfl
def Z69 (r:Bool):AV→Heap→Nat→Prop:=fun v h' n' => v=(B r)∧(h' = e0)∧n' = 0
abbrev Zg5 (mL:Int) (o:Bool):AExit→St→Prop:=AThen (Sv Tryz.prog (GG mL) 0 a91_c1 (Ends a91.results 0 (Z69 o))) (Ends a91.results 0 (Z69 o))
noncomputable def Z2t (v4:Bool):Option Bool :=
 some v4
theorem Z6a {mL:Int}{v4:Bool}{o:Bool}(h:Z2t v4=some o) :
  Sv Tryz.prog (GG mL) 0 a91_c0 (Zg5 mL o) ⟨(upd e0 4 (some (B v4))),e0,0⟩:=by
 unfold Z2t at h
 refine Sv.ret ?_
 exact rt0 h rfl rfl ⟨rfl,rfl,rfl⟩
noncomputable def Z3y (v41:Bool):Option Bool :=
 some v41
theorem Z7u {mL:Int}{v41:Bool}{o:Bool}(h:Z3y v41=some o) :
  Sv Tryz.prog (GG mL) 0 a91_c2 (Ends a91.results 0 (Z69 o)) ⟨(upd e0 4 (some (B v41))),e0,0⟩:=by
 unfold Z3y at h
 refine Sv.ret ?_
 exact rt0 h rfl rfl ⟨rfl,rfl,rfl⟩
noncomputable def Z2u (s_:Tx) (i_:Int):Option Bool :=
 (Zm s_ i_).bind fun r_ =>
 if decide (r_=45) then
  if decide ((wi (i_+1))<(s_.length:Int)) then
   (at? s_ (wi (i_+1))).bind fun c_ =>
   if decide ((c_.toNat:Int)=45) then
    Z2t true
   else
    (at? s_ (wi (i_+1))).bind fun c_1 =>
    if (Zn (c_1.toNat:Int)) then
     Z2t true
    else
     (Z1v s_ (wi (i_+1))).bind fun r_1 =>
     Z2t r_1
  else
   Z2t false
 else
  if decide (i_<(s_.length:Int)) then
   (at? s_ i_).bind fun c_2 =>
   if (Zn (c_2.toNat:Int)) then
    Z3y true
   else
    (Z1v s_ i_).bind fun r_2 =>
    Z3y r_2
  else
   (Z1v s_ i_).bind fun r_3 =>
   Z3y r_3
theorem Z7v {mL:Int}{s_:Tx}{i_:Int}{r:Bool}(h:Z2u s_ i_=some r):CPure Tryz.prog (GG mL) 91 [(S s_),(I i_)] (B r):=by
 refine acalls_of_sv hmix c91 (R:=Z69 r) ?_
 unfold Z2u at h
 refine ssr<|un1 rfl<|dnil<|Sv.seq<|ssr<|un1 rfl<|un1 rfl ?_
 obtain ⟨r_,hr1,h⟩:=bnd h
 refine un<|ac_pure (Z1u hr1) rfl rfl rfl<|un1 (v:=(B (decide (r_=45)))) rfl<|dnil ?_
 refine Sv.cnd rfl h (fun h=>?_) fun h=>?_
 ·refine ssr<|un1 rfl<|un1 (v:=(I (wi (i_+1)))) rfl<|un1 rfl<|un1 (v:=(I (s_.length:Int))) rfl<|un1 (v:=(B (decide ((wi (i_+1))<(s_.length:Int))))) rfl<|un1 rfl ?_
  refine spl h (fun h=>?_) fun h=>?_
  ·refine gt rfl<|a1 rfl<|gt rfl<|a1 rfl<|gt rfl<|a1 (v:=(I (wi (i_+1)))) rfl ?_
   obtain ⟨c_,hx1,h⟩:=bnd h
   refine gt rfl<|a1 (v:=(.c (.val (.int .u8 (c_.toNat:Int))))) (s_idxS rfl rfl hx1)<|gt rfl<|a1 (v:=(B (decide ((c_.toNat:Int)=45)))) rfl<|gt rfl<|a1 rfl ?_
   refine spl h (fun h=>?_) fun h=>?_
   ·repeat (first | refine gu rfl ?_ | refine gs rfl rfl ?_)
    refine gt rfl<|a1 (v:=(B true)) rfl<|gt rfl<|a1 rfl<|gs rfl rfl<|gs rfl rfl<|gs rfl rfl<|gs rfl rfl<|gt rfl<|a1 (v:=(B true)) rfl<|un1 (v:=(B true)) rfl<|un1 rfl<|dnil ?_
    exact Sv.weak (wcn [] rfl (.cf rfl rfl .nil) .nil) (Z6a h)
   ·refine gt rfl<|a1 rfl<|gt rfl<|a1 rfl<|gt rfl<|a1 (v:=(I (wi (i_+1)))) rfl ?_
    obtain ⟨c_1,hx2,h⟩:=bnd h
    refine gt rfl<|a1 (v:=(.c (.val (.int .u8 (c_1.toNat:Int))))) (s_idxS rfl rfl hx2)<|gt rfl<|ac_pure (Z7t (mL:=mL) (c_1.toNat:Int)) rfl rfl rfl<|gt rfl<|a1 (v:=(B (Zn (c_1.toNat:Int)))) rfl<|gt rfl<|a1 rfl ?_
    refine spl h (fun h=>?_) fun h=>?_
    ·refine gs rfl rfl<|gs rfl rfl<|gs rfl rfl<|gs rfl rfl<|gt rfl<|a1 (v:=(B true)) rfl<|un1 (v:=(B true)) rfl<|un1 rfl<|dnil ?_
     exact Sv.weak (wcn [] rfl (.cf rfl rfl .nil) .nil) (Z6a h)
    ·refine gt rfl<|a1 rfl<|gt rfl<|a1 rfl<|gt rfl<|a1 (v:=(I (wi (i_+1)))) rfl ?_
     obtain ⟨r_1,hr2,h⟩:=bnd h
     refine gt rfl<|ac_pure (Z51 hr2) rfl rfl rfl<|gt rfl<|a1 (v:=(B r_1)) rfl<|un1 (v:=(B r_1)) rfl<|un1 rfl<|dnil ?_
     exact Sv.weak (wcn [] rfl (.cf rfl rfl .nil) .nil) (Z6a h)
  ·repeat (first | refine gu rfl ?_ | refine gs rfl rfl ?_)
   refine un1 (v:=(B false)) rfl<|un1 rfl<|dnil ?_
   exact Sv.weak (wcn [] rfl (.cf rfl rfl .nil) .nil) (Z6a h)
 ·refine Sv.skip<|ssr<|un1 rfl<|un1 rfl<|un1 (v:=(I (s_.length:Int))) rfl<|un1 (v:=(B (decide (i_<(s_.length:Int))))) rfl<|un1 rfl ?_
  refine spl h (fun h=>?_) fun h=>?_
  ·refine gt rfl<|a1 rfl<|gt rfl<|a1 rfl ?_
   obtain ⟨c_2,hx3,h⟩:=bnd h
   refine gt rfl<|a1 (v:=(.c (.val (.int .u8 (c_2.toNat:Int))))) (s_idxS rfl rfl hx3)<|gt rfl<|ac_pure (Z7t (mL:=mL) (c_2.toNat:Int)) rfl rfl rfl<|un1 (v:=(B (Zn (c_2.toNat:Int)))) rfl<|un1 rfl ?_
   refine spl h (fun h=>?_) fun h=>?_
   ·refine gs rfl rfl<|gs rfl rfl<|gs rfl rfl<|un1 (v:=(B true)) rfl<|un1 rfl<|dnil ?_
    exact Sv.weak (wcn [] rfl (.cf rfl rfl .nil) .nil) (Z7u h)
   ·refine gt rfl<|a1 rfl<|gt rfl<|a1 rfl ?_
    obtain ⟨r_2,hr3,h⟩:=bnd h
    refine gt rfl<|ac_pure (Z51 hr3) rfl rfl rfl<|un1 (v:=(B r_2)) rfl<|un1 rfl<|dnil ?_
    exact Sv.weak (wcn [] rfl (.cf rfl rfl .nil) .nil) (Z7u h)
  ·refine gs rfl rfl<|gs rfl rfl<|gs rfl rfl<|gs rfl rfl<|un1 (v:=(B false)) rfl<|un1 rfl<|gt rfl<|a1 rfl<|gt rfl<|a1 rfl ?_
   obtain ⟨r_3,hr4,h⟩:=bnd h
   refine gt rfl<|ac_pure (Z51 hr4) rfl rfl rfl<|un1 (v:=(B r_3)) rfl<|un1 rfl<|dnil ?_
   exact Sv.weak (wcn [] rfl (.cf rfl rfl .nil) .nil) (Z7u h)
def a88:AFunc:=⟨1,[(.tmp 2)],(sr [(oP 2 (.mov kF))]
 (sr [(mV 3 0),(oP 4 (.call 98 [(.tmp 3)])),(mV 5 4),⟨(some 6),(.mov (.tmp 0)),(some (5,false))⟩,⟨(some 7),(.call 97 [(.tmp 6)]),(some (5,false))⟩,(oP 8 (.pick (.tmp 5) kT (.tmp 7))),(mV 9 8),⟨(some 10),(.mov (.tmp 0)),(some (9,false))⟩,⟨(some 11),(.bin .eql (.tmp 10) (.const (.c (.val (.int .u8 45))))),(some (9,false))⟩,(oP 12 (.pick (.tmp 9) kT (.tmp 11))),(mV 2 12)]
 .ret))⟩
theorem c88:compFunc Tryz.prog 88=some a88:=by kernel_rfl
def Zg6 (r:Bool):AV→Heap→Nat→Prop:=fun v h' n' => v=(B r)∧(h' = e0)∧n' = 0
def Z2d (c_:Int):Bool :=
 (((Zn c_)||(Zd c_))||(decide (c_=45)))
theorem Zbd {mL:Int}(c_:Int):CPure Tryz.prog (GG mL) 88 [(.c (.val (.int .u8 c_)))] (B (Z2d c_)):=by
 generalize h:Z2d c_=o
 refine acalls_of_sv hmix c88 (R:=Zg6 o) ?_
 unfold Z2d at h
 refine ssr<|un1 rfl<|dnil<|ssr<|un1 rfl<|un<|ac_pure (Z7t (mL:=mL) c_) rfl rfl rfl<|un1 rfl ?_
 refine gjoin 3 (d:=8) (v:=(B ((Zn c_)||(Zd c_)))) (fun X hX=>?_) ?_
 ·refine split2 (fun hc1=>?_) (fun hc1=>?_)
  ·refine gs rfl rfl<|gs rfl rfl<|un1 (v:=(B true)) rfl<|dnil ?_
   exact hX _ (.putEq (by rw [hc1]; rfl) (.skp (.skp (.putEq (by rw [hc1]) (.refl _)) rfl) rfl))
  ·refine gt rfl<|a1 rfl<|gt rfl<|ac_pure (Z68 (mL:=mL) c_) rfl rfl rfl<|un1 (v:=(B (Zd c_))) rfl<|dnil ?_
   exact hX _ (.putEq (by rw [hc1]; rfl) (.skp (.skp (.putEq (by rw [hc1]) (.refl _)) rfl) rfl))
 refine un1 rfl ?_
 refine gjoin 3 (d:=12) (v:=(B (((Zn c_)||(Zd c_))||(decide (c_=45))))) (fun X hX=>?_) ?_
 ·refine split2 (fun hc2=>?_) (fun hc2=>?_)
  ·refine gs rfl rfl<|gs rfl rfl<|un1 (v:=(B true)) rfl<|dnil ?_
   exact hX _ (.putEq (by rw [hc2]; rfl) (.skp (.skp (.putEq (by rw [hc2]) (.refl _)) rfl) rfl))
  ·refine gt rfl<|a1 rfl<|gt rfl<|a1 (v:=(B (decide (c_=45)))) rfl<|un1 (v:=(B (decide (c_=45)))) rfl<|dnil ?_
   exact hX _ (.putEq (by rw [hc2]; rfl) (.skp (.skp (.putEq (by rw [hc2]) (.refl _)) rfl) rfl))
 refine un1 rfl<|dnil<|Sv.ret ?_
 subst h
 exact ⟨_,.refl _,_,rfl,⟨upd e0 0 (some (B (((Zn c_)||(Zd c_))||(decide (c_=45))))),e0,0⟩,(B (((Zn c_)||(Zd c_))||(decide (c_=45)))),weak_canon [] rfl ndl nll nlz (.cf rfl rfl .nil) .nil,rfl,rfl,rfl,rfl⟩
def a90_c0:ACode:=(.cond (.tmp 21) .skip (.exit 0))
def a90_c1:ACode:=(sr [(mV 28 6),(mV 29 0),(mV 30 1),(mV 31 1),(oP 32 (.bin .add (.tmp 31) (kI 1))),(oP 33 (.slStr (.tmp 29) (some (.tmp 30)) (some (.tmp 32)))),(oP 34 (.bin .add (.tmp 28) (.tmp 33))),(mV 6 34)]
 (.region [(mV 35 1),(oP 36 (.bin .add (.tmp 35) (kI 1))),(mV 1 36)]))
def a90_c2:ACode:=(.block 1 (.seq (sr [(mV 22 0),(mV 23 1),(oP 24 (.idxS (.tmp 22) (.tmp 23))),(oP 25 (.bin .eql (.tmp 24) (.const (.c (.val (.int .u8 92))))))]
 (.cond (.tmp 25) (.region [(mV 26 1),(oP 27 (.bin .add (.tmp 26) (kI 1))),(mV 1 27)]) .skip))
 a90_c1))
def a90_c3:ACode:=(.seq (sr [(mV 7 1),(mV 8 0),(oP 9 (.lenS (.tmp 8))),(oP 10 (.bin .lss (.tmp 7) (.tmp 9))),(mV 11 10),⟨(some 12),(.mov (.tmp 0)),(some (11,true))⟩,⟨(some 13),(.mov (.tmp 1)),(some (11,true))⟩,⟨(some 14),(.idxS (.tmp 12) (.tmp 13)),(some (11,true))⟩,⟨(some 15),(.call 88 [(.tmp 14)]),(some (11,true))⟩,⟨(some 16),(.mov (.tmp 15)),(some (11,true))⟩,⟨(some 17),(.mov (.tmp 0)),(some (16,false))⟩,⟨(some 18),(.mov (.tmp 1)),(some (16,false))⟩,⟨(some 19),(.call 89 [(.tmp 17),(.tmp 18)]),(some (16,false))⟩,⟨(some 20),(.pick (.tmp 16) kT (.tmp 19)),(some (11,true))⟩,(oP 21 (.pick (.tmp 11) (.tmp 20) kF))]
 a90_c0)
 a90_c2)
def a90:AFunc:=⟨2,[(.tmp 4),(.tmp 5)],(sr [(oP 4 (.mov (.const (.c (.str []))))),(oP 5 (.mov (kI 0)))]
 (sr [(oP 6 (.mov (.const (.c (.str [])))))]
 (.seq (.block 0 (.loop a90_c3))
 (sr [(mV 37 6),(mV 38 1),(mV 4 37),(mV 5 38)]
 .ret))))⟩
theorem c90:compFunc Tryz.prog 90=some a90:=by kernel_rfl
def Z6b (r:(Tx×Int)):AV→Heap→Nat→Prop:=fun v h' n' => v=(.tup [(S r.1),(I r.2)])∧(h' = e0)∧n' = 0
abbrev Z7w (s_:Tx) (F_:Int→Tx→Option (Tx×Int)) (o:(Tx×Int)) (R_:St→Prop):Prop:=∀(i_1:Int) (out:Tx),F_ i_1 out=some o→∀ s,Weak 0 s ⟨(ue [(6,(S out)),(1,(I i_1)),(0,(S s_))]),e0,0⟩→R_ s
abbrev Z7x (F_:Int→Tx→Option (Tx×Int)) (o:(Tx×Int)) (R_:St→Prop):Prop:=∀(i_2:Int) (out1:Tx),F_ i_2 out1=some o→∀ s,Weak 0 s ⟨(ue [(6,(S out1)),(1,(I i_2))]),e0,0⟩→R_ s
abbrev Zg7 (mL:Int) (Q:AExit→St→Prop):AExit→St→Prop:=ABlock 1 Q
noncomputable def Z52 (s_:Tx) (out:Tx) (self:Int→Tx→Option (Tx×Int)) (K0_:Int→Tx→Option (Tx×Int)) (i_3:Int):Option (Tx×Int) :=
 (sub? s_ i_3 (wi (i_3+1))).bind fun r_ =>
 (cat? out r_).bind fun r_1 =>
 self (wi (i_3+1)) r_1
theorem Zbe {mL:Int}{Q:AExit→St→Prop}{s_:Tx}{out:Tx}{self:Int→Tx→Option (Tx×Int)}{K0_:Int→Tx→Option (Tx×Int)}{i_3:Int}{o:(Tx×Int)}(h:Z52 s_ out self K0_ i_3=some o)
  (hself:Z7w s_ self o (Q .normal))
  (hK0:Z7x K0_ o (Q (.exit 0)))
  (hr:∀ s,Ends a90.results 0 (Z6b o) .ret s→Q .ret s) :
  Sv Tryz.prog (GG mL) 0 a90_c1 (Zg7 mL Q) ⟨(ue [(6,(S out)),(1,(I i_3)),(0,(S s_))]),e0,0⟩:=by
 unfold Z52 at h
 refine ssr<|un1 rfl<|un1 rfl<|un1 rfl<|un1 rfl<|un1 (v:=(I (wi (i_3+1)))) rfl ?_
 obtain ⟨r_,hx1,h⟩:=bnd h
 refine un1 (v:=(S r_)) (s_slStr rfl rfl rfl hx1) ?_
 obtain ⟨r_1,hx2,h⟩:=bnd h
 refine un1 (v:=(S r_1)) (s_cat rfl rfl hx2)<|un1 rfl<|dnil<|srg<|un1 rfl<|un1 (v:=(I (wi (i_3+1)))) rfl<|un1 rfl<|dnil ?_
 exact hself (wi (i_3+1)) r_1 h _ (wcn [] rfl (.cf rfl rfl (.cf rfl rfl (.cf rfl rfl .nil))) .nil)
abbrev Zg8 (mL:Int) (Q:AExit→St→Prop):AExit→St→Prop:=AThen (Sv Tryz.prog (GG mL) 0 a90_c2 Q) Q
noncomputable def Z3z (s_:Tx) (i_1:Int) (out:Tx) (self:Int→Tx→Option (Tx×Int)) (K0_:Int→Tx→Option (Tx×Int)) (v21:Bool):Option (Tx×Int) :=
 if v21 then
  (at? s_ i_1).bind fun c_ =>
  if decide ((c_.toNat:Int)=92) then
   Z52 s_ out self K0_ (wi (i_1+1))
  else
   Z52 s_ out self K0_ i_1
 else
  K0_ i_1 out
theorem Z7y {mL:Int}{Q:AExit→St→Prop}{s_:Tx}{i_1:Int}{out:Tx}{self:Int→Tx→Option (Tx×Int)}{K0_:Int→Tx→Option (Tx×Int)}{v21:Bool}{o:(Tx×Int)}(h:Z3z s_ i_1 out self K0_ v21=some o)
  (hself:Z7w s_ self o (Q .normal))
  (hK0:Z7x K0_ o (Q (.exit 0)))
  (hr:∀ s,Ends a90.results 0 (Z6b o) .ret s→Q .ret s) :
  Sv Tryz.prog (GG mL) 0 a90_c0 (Zg8 mL Q) ⟨(ue [(21,(B v21)),(6,(S out)),(1,(I i_1)),(0,(S s_))]),e0,0⟩:=by
 unfold Z3z at h
 refine Sv.cnd rfl h (fun h=>?_) fun h=>?_
 ·refine Sv.skip<|Sv.block<|Sv.seq<|ssr<|un1 rfl<|un1 rfl ?_
  obtain ⟨c_,hx3,h⟩:=bnd h
  refine un1 (v:=(.c (.val (.int .u8 (c_.toNat:Int))))) (s_idxS rfl rfl hx3)<|un1 (v:=(B (decide ((c_.toNat:Int)=92)))) rfl<|dnil ?_
  refine Sv.cnd rfl h (fun h=>?_) fun h=>?_
  ·refine srg<|un1 rfl<|un1 (v:=(I (wi (i_1+1)))) rfl<|un1 rfl<|dnil ?_
   exact Sv.weak (wcn [] rfl (.cf rfl rfl (.cf rfl rfl (.cf rfl rfl .nil))) .nil) (Zbe h hself hK0 hr)
  ·refine Sv.skip ?_
   exact Sv.weak (wcn [] rfl (.cf rfl rfl (.cf rfl rfl (.cf rfl rfl .nil))) .nil) (Zbe h hself hK0 hr)
 ·refine Sv.exit ?_
  exact hK0 i_1 out h _ (wcn [] rfl (.cf rfl rfl (.cf rfl rfl .nil)) .nil)
abbrev Zbf (s_:Tx) (F_:Nat→Int→Tx→Option (Tx×Int)) (o:(Tx×Int)):Nat→St→Prop:=fun k s=>∃(i_1:Int),∃(out:Tx),F_ k i_1 out=some o∧s=⟨(ue [(6,(S out)),(1,(I i_1)),(0,(S s_))]),e0,0⟩
noncomputable def Z15 (s_:Tx) (K0_:Int→Tx→Option (Tx×Int)):Nat→Int→Tx→Option (Tx×Int)
 | 0,_,_=>none
 | k+1,i_1,out =>
  if decide (i_1<(s_.length:Int)) then
   (at? s_ i_1).bind fun c_1 =>
   if (Z2d (c_1.toNat:Int)) then
    Z3z s_ i_1 out (Z15 s_ K0_ k) K0_ true
   else
    (Z1v s_ i_1).bind fun r_2 =>
    Z3z s_ i_1 out (Z15 s_ K0_ k) K0_ r_2
  else
   Z3z s_ i_1 out (Z15 s_ K0_ k) K0_ false
theorem Zg9 {mL:Int}{Q:AExit→St→Prop}{s_:Tx}{K0_:Int→Tx→Option (Tx×Int)}{k:Nat}{i_1:Int}{out:Tx}{o:(Tx×Int)}(h:Z15 s_ K0_ k i_1 out=some o)
  (hK0:Z7x K0_ o (Q (.exit 0)))
  (hr:∀ s,Ends a90.results 0 (Z6b o) .ret s→Q .ret s) :
  Sv Tryz.prog (GG mL) 0 (.loop a90_c3) Q ⟨(ue [(6,(S out)),(1,(I i_1)),(0,(S s_))]),e0,0⟩:=by
 refine Sv.loop (I:=Zbf s_ (Z15 s_ K0_) o) (fun k s hI=>?_) ⟨i_1,out,h,rfl⟩
 clear h
 clear out i_1
 obtain ⟨i_1,out,h,rfl⟩:=hI
 cases k with
 | zero=>cases h
 | succ k =>
 rw [Z15] at h
 have hself:Z7w s_ (Z15 s_ K0_ k) o (rnd 0 (Zbf s_ (Z15 s_ K0_) o) k Q):=fun i_1 out h s hw=>⟨_,k,hw,Nat.lt_succ_self k,i_1,out,h,rfl⟩
 refine Sv.seq<|ssr<|un1 rfl<|un1 rfl<|un1 (v:=(I (s_.length:Int))) rfl<|un1 (v:=(B (decide (i_1<(s_.length:Int))))) rfl<|un1 rfl ?_
 refine spl h (fun h=>?_) fun h=>?_
 ·refine gt rfl<|a1 rfl<|gt rfl<|a1 rfl ?_
  obtain ⟨c_1,hx4,h⟩:=bnd h
  refine gt rfl<|a1 (v:=(.c (.val (.int .u8 (c_1.toNat:Int))))) (s_idxS rfl rfl hx4)<|gt rfl<|ac_pure (Zbd (mL:=mL) (c_1.toNat:Int)) rfl rfl rfl<|gt rfl<|a1 rfl ?_
  refine spl h (fun h=>?_) fun h=>?_
  ·refine gs rfl rfl<|gs rfl rfl<|gs rfl rfl<|gt rfl<|a1 (v:=(B true)) rfl<|un1 (v:=(B true)) rfl<|dnil ?_
   exact Sv.weak (wcn [] rfl (.cf rfl rfl (.cf rfl rfl (.cf rfl rfl (.cf rfl rfl .nil)))) .nil) (Z7y h hself hK0 hr)
  ·refine gt rfl<|a1 rfl<|gt rfl<|a1 rfl ?_
   obtain ⟨r_2,hr1,h⟩:=bnd h
   refine gt rfl<|ac_pure (Z51 hr1) rfl rfl rfl<|gt rfl<|a1 (v:=(B r_2)) rfl<|un1 (v:=(B r_2)) rfl<|dnil ?_
   exact Sv.weak (wcn [] rfl (.cf rfl rfl (.cf rfl rfl (.cf rfl rfl (.cf rfl rfl .nil)))) .nil) (Z7y h hself hK0 hr)
 ·repeat (first | refine gu rfl ?_ | refine gs rfl rfl ?_)
  refine un1 (v:=(B false)) rfl<|dnil ?_
  exact Sv.weak (wcn [] rfl (.cf rfl rfl (.cf rfl rfl (.cf rfl rfl (.cf rfl rfl .nil)))) .nil) (Z7y h hself hK0 hr)
noncomputable def Z1w (s_:Tx) (i_:Int):Option (Tx×Int) :=
 limF fun kk=>Z15 s_ (fun (i_2:Int) (out1:Tx) => 
   some (out1,i_2)) kk i_ []
theorem Z6c {mL:Int}{s_:Tx}{i_:Int}{r:(Tx×Int)}(h:Z1w s_ i_=some r):CPure Tryz.prog (GG mL) 90 [(S s_),(I i_)] (.tup [(S r.1),(I r.2)]):=by
 refine acalls_of_sv hmix c90 (R:=Z6b r) ?_
 unfold Z1w at h
 refine ssr<|un1 rfl<|un1 rfl<|dnil<|ssr<|un1 rfl<|dnil<|Sv.seq<|Sv.block ?_
 obtain ⟨kk,h⟩:=limF_some h
 refine Sv.weak (wcn [] rfl (.cf rfl rfl (.cf rfl rfl (.cf rfl rfl .nil))) .nil) (Zg9 h ?_ (fun s hs=>hs))
 ·intro i_2 out1 h _ hw1
  refine Sv.weak hw1<|ssr<|un1 rfl<|un1 rfl<|un1 rfl<|un1 rfl<|dnil<|Sv.ret ?_
  exact rt0 h rfl rfl ⟨rfl,rfl,rfl⟩
def a36_c0:ACode:=(.cond (.tmp 24) (.region [(mV 25 3),(mV 26 4),(mV 27 3),(mV 28 4),(oP 29 (.iaddr 1 (.tmp 27) (.tmp 28))),(oP 30 (.load false 1 (.tmp 29))),(oP 31 (.bin .add (.tmp 30) (.const (.c (.val (.int .u8 32)))))),(oP 32 (.iaddr 1 (.tmp 25) (.tmp 26))),(oN (.store 1 (.tmp 32) (.tmp 31)))]) .skip)
def a36_c1:ACode:=(.region [(mV 11 4),(oP 12 (.bin .add (.tmp 11) (kI 1))),(mV 4 12)])
def a36_c2:ACode:=(.seq (sr [(mV 7 4),(mV 8 3),(oP 9 (.len (.tmp 8))),(oP 10 (.bin .lss (.tmp 7) (.tmp 9)))]
 (.cond (.tmp 10) .skip (.exit 0)))
 (.seq (.block 1 (sr [(mV 13 3),(mV 14 4),(oP 15 (.iaddr 1 (.tmp 13) (.tmp 14))),(oP 16 (.load false 1 (.tmp 15))),(oP 17 (.bin .geq (.tmp 16) (.const (.c (.val (.int .u8 65)))))),(mV 18 17),⟨(some 19),(.mov (.tmp 3)),(some (18,true))⟩,⟨(some 20),(.mov (.tmp 4)),(some (18,true))⟩,⟨(some 21),(.iaddr 1 (.tmp 19) (.tmp 20)),(some (18,true))⟩,⟨(some 22),(.load false 1 (.tmp 21)),(some (18,true))⟩,⟨(some 23),(.bin .leq (.tmp 22) (.const (.c (.val (.int .u8 90))))),(some (18,true))⟩,(oP 24 (.pick (.tmp 18) (.tmp 23) kF))]
 a36_c0))
 a36_c1))
def a36:AFunc:=⟨1,[(.tmp 2)],(sr [(oP 2 (.mov (.const (.c (.str [])))))]
 (sr [(mV 5 0),(oP 6 (.toBytes (.tmp 5))),(mV 3 6)]
 (.seq (sr [(oP 4 (.mov (kI 0)))]
 (.block 0 (.loop a36_c2)))
 (sr [(mV 33 3),(oP 34 (.ofBytes (.tmp 33))),(mV 2 34)]
 .ret))))⟩
theorem c36:compFunc Tryz.prog 36=some a36:=by kernel_rfl
def Z6d (r:Tx):AV→Heap→Nat→Prop:=fun v h' n' => v=(S r)∧(h' = e0)∧n' = 0
abbrev Z7z (F_:(List Int)→Int→Option Tx) (o:Tx) (R_:St→Prop):Prop:=∀(b_:(List Int)) (i_:Int) (zb:Bool) (_:zb=true→b_=[]),F_ b_ i_=some o→∀ s,Weak 0 s ⟨(ue [(4,(I i_)),(3,(lstV zb 0 1 b_.length))]),(upd e0 0 (lstB zb 1 (b_.map (eK .u8)))),1⟩→R_ s
abbrev Z80 (F_:(List Int)→Option Tx) (o:Tx) (R_:St→Prop):Prop:=∀(b_1:(List Int)) (zb_1:Bool) (_:zb_1=true→b_1=[]),F_ b_1=some o→∀ s,Weak 0 s ⟨(upd e0 3 (some (lstV zb_1 0 1 b_1.length))),(upd e0 0 (lstB zb_1 1 (b_1.map (eK .u8)))),1⟩→R_ s
noncomputable def Z53 (i_:Int) (self:(List Int)→Int→Option Tx) (K0_:(List Int)→Option Tx) (b_2:(List Int)):Option Tx :=
 self b_2 (wi (i_+1))
theorem Zbg {mL:Int}{Q:AExit→St→Prop}{i_:Int}{self:(List Int)→Int→Option Tx}{K0_:(List Int)→Option Tx}{b_2:(List Int)}{zb_2:Bool}(hzb_2:zb_2=true→b_2=[]) {o:Tx}(h:Z53 i_ self K0_ b_2=some o)
  (hself:Z7z self o (Q .normal))
  (hK0:Z80 K0_ o (Q (.exit 0)))
  (hr:∀ s,Ends a36.results 0 (Z6d o) .ret s→Q .ret s) :
  Sv Tryz.prog (GG mL) 0 a36_c1 Q ⟨(ue [(4,(I i_)),(3,(lstV zb_2 0 1 b_2.length))]),(upd e0 0 (lstB zb_2 1 (b_2.map (eK .u8)))),1⟩:=by
 unfold Z53 at h
 refine srg<|un1 rfl<|un1 (v:=(I (wi (i_+1)))) rfl<|un1 rfl<|dnil ?_
 exact hself b_2 (wi (i_+1)) zb_2 hzb_2 h _ (wcn [0] rfl (.cf rfl rfl (.cons rfl (.c (lsr rfl rfl)) .nil)) (.row (by decide) rfl (fr_map fun _=>rfl) .nil))
abbrev Zga (mL:Int) (Q:AExit→St→Prop):AExit→St→Prop:=AThen (Sv Tryz.prog (GG mL) 0 a36_c1 Q) Q
abbrev Zgb (mL:Int) (Q:AExit→St→Prop):AExit→St→Prop:=ABlock 1 (Zga mL Q)
noncomputable def Z54 (i_:Int) (self:(List Int)→Int→Option Tx) (K0_:(List Int)→Option Tx) (b_3:(List Int)) (v24:Bool):Option Tx :=
 if v24 then
  (at? b_3 i_).bind fun x_ =>
  (at? b_3 i_).bind fun x_1 =>
  Z53 i_ self K0_ (b_3.set i_.toNat (wr .u8 (x_+32)))
 else
  Z53 i_ self K0_ b_3
theorem Zbh {mL:Int}{Q:AExit→St→Prop}{i_:Int}{self:(List Int)→Int→Option Tx}{K0_:(List Int)→Option Tx}{b_3:(List Int)}{v24:Bool}{zb_3:Bool}(hzb_3:zb_3=true→b_3=[]) {o:Tx}(h:Z54 i_ self K0_ b_3 v24=some o)
  (hself:Z7z self o (Q .normal))
  (hK0:Z80 K0_ o (Q (.exit 0)))
  (hr:∀ s,Ends a36.results 0 (Z6d o) .ret s→Q .ret s) :
  Sv Tryz.prog (GG mL) 0 a36_c0 (Zgb mL Q) ⟨(ue [(24,(B v24)),(4,(I i_)),(3,(lstV zb_3 0 1 b_3.length))]),(upd e0 0 (lstB zb_3 1 (b_3.map (eK .u8)))),1⟩:=by
 unfold Z54 at h
 refine Sv.cnd rfl h (fun h=>?_) fun h=>?_
 ·refine srg<|un1 rfl<|un1 rfl<|un1 rfl<|un1 rfl ?_
  obtain ⟨x_,hx1,h⟩:=bnd h
  refine un1 (v:=(.c (.ref 0 1 i_.toNat 0))) (s_iaddrL rfl rfl hzb_3 hx1)<|un1 (v:=(.c (.val (.int .u8 x_)))) (s_loadL (z:=zb_3) (e:=(eK .u8)) rfl rfl hzb_3 hx1 rfl rfl)<|un1 (v:=(.c (.val (.int .u8 (wr .u8 (x_+32)))))) rfl ?_
  obtain ⟨x_1,hx2,h⟩:=bnd h
  refine un1 (v:=(.c (.ref 0 1 i_.toNat 0))) (s_iaddrL rfl rfl hzb_3 hx2)<|un<|a2n (h' := upd _ 0 (lstB zb_3 1 ((b_3.set i_.toNat (wr .u8 (x_+32))).map (eK .u8)))) (n' := 1) rfl (s_storeL (e:=(eK .u8)) (q' := (wr .u8 (x_+32))) rfl rfl hzb_3 hx2 rfl rfl rfl (Nat.le_of_ble_eq_true rfl) rfl) hcs ?_
  try rw [len_set b_3 i_.toNat (wr .u8 (x_+32))]
  refine dnil ?_
  exact Sv.weak (wcn [0] rfl (.cf rfl rfl (.cons rfl (.c (lsr rfl rfl)) .nil)) (.row (by decide) rfl (fr_map fun _=>rfl) .nil)) (Zbg (hz_len hzb_3 (len_set b_3 i_.toNat (wr .u8 (x_+32)))) h hself hK0 hr)
 ·refine Sv.skip ?_
  exact Sv.weak (wcn [0] rfl (.cf rfl rfl (.cons rfl (.c (lsr rfl rfl)) .nil)) (.row (by decide) rfl (fr_map fun _=>rfl) .nil)) (Zbg hzb_3 h hself hK0 hr)
abbrev Zbi (F_:Nat→(List Int)→Int→Option Tx) (o:Tx):Nat→St→Prop:=fun k s=>∃(b_:(List Int)),∃(i_:Int),∃(zb:Bool),(zb=true→b_=[])∧F_ k b_ i_=some o∧s=⟨(ue [(4,(I i_)),(3,(lstV zb 0 1 b_.length))]),(upd e0 0 (lstB zb 1 (b_.map (eK .u8)))),1⟩
noncomputable def Z1l (K0_:(List Int)→Option Tx):Nat→(List Int)→Int→Option Tx
 | 0,_,_=>none
 | k+1,b_,i_ =>
  if decide (i_<(b_.length:Int)) then
   (at? b_ i_).bind fun x_2 =>
   if decide (65≤x_2) then
    (at? b_ i_).bind fun x_3 =>
    Z54 i_ (Z1l K0_ k) K0_ b_ (decide (x_3≤90))
   else
    Z54 i_ (Z1l K0_ k) K0_ b_ false
  else
   K0_ b_
theorem Zgc {mL:Int}{Q:AExit→St→Prop}{K0_:(List Int)→Option Tx}{k:Nat}{b_:(List Int)}{i_:Int}{zb:Bool}(hzb:zb=true→b_=[]) {o:Tx}(h:Z1l K0_ k b_ i_=some o)
  (hK0:Z80 K0_ o (Q (.exit 0)))
  (hr:∀ s,Ends a36.results 0 (Z6d o) .ret s→Q .ret s) :
  Sv Tryz.prog (GG mL) 0 (.loop a36_c2) Q ⟨(ue [(4,(I i_)),(3,(lstV zb 0 1 b_.length))]),(upd e0 0 (lstB zb 1 (b_.map (eK .u8)))),1⟩:=by
 refine Sv.loop (I:=Zbi (Z1l K0_) o) (fun k s hI=>?_) ⟨b_,i_,zb,hzb,h,rfl⟩
 clear h
 clear hzb zb i_ b_
 obtain ⟨b_,i_,zb,hzb,h,rfl⟩:=hI
 cases k with
 | zero=>cases h
 | succ k =>
 rw [Z1l] at h
 have hself:Z7z (Z1l K0_ k) o (rnd 0 (Zbi (Z1l K0_) o) k Q):=fun b_ i_ zb hzb h s hw=>⟨_,k,hw,Nat.lt_succ_self k,b_,i_,zb,hzb,h,rfl⟩
 refine Sv.seq<|ssr<|un1 rfl<|un1 rfl<|un1 (v:=(I (b_.length:Int))) (s_lenL rfl (len_nil_of hzb))<|un1 (v:=(B (decide (i_<(b_.length:Int))))) rfl<|dnil ?_
 refine Sv.cnd rfl h (fun h=>?_) fun h=>?_
 ·refine Sv.skip<|Sv.seq<|Sv.block<|ssr<|un1 rfl<|un1 rfl ?_
  obtain ⟨x_2,hx3,h⟩:=bnd h
  refine un1 (v:=(.c (.ref 0 1 i_.toNat 0))) (s_iaddrL rfl rfl hzb hx3)<|un1 (v:=(.c (.val (.int .u8 x_2)))) (s_loadL (z:=zb) (e:=(eK .u8)) rfl rfl hzb hx3 rfl rfl)<|un1 (v:=(B (decide (65≤x_2)))) rfl<|un1 rfl ?_
  refine spl h (fun h=>?_) fun h=>?_
  ·refine gt rfl<|a1 rfl<|gt rfl<|a1 rfl ?_
   obtain ⟨x_3,hx4,h⟩:=bnd h
   refine gt rfl<|a1 (v:=(.c (.ref 0 1 i_.toNat 0))) (s_iaddrL rfl rfl hzb hx4)<|gt rfl<|a1 (v:=(.c (.val (.int .u8 x_3)))) (s_loadL (z:=zb) (e:=(eK .u8)) rfl rfl hzb hx4 rfl rfl)<|gt rfl<|a1 (v:=(B (decide (x_3≤90)))) rfl<|un1 (v:=(B (decide (x_3≤90)))) rfl<|dnil ?_
   exact Sv.weak (wcn [0] rfl (.cf rfl rfl (.cf rfl rfl (.cons rfl (.c (lsr rfl rfl)) .nil))) (.row (by decide) rfl (fr_map fun _=>rfl) .nil)) (Zbh hzb h hself hK0 hr)
  ·repeat (first | refine gu rfl ?_ | refine gs rfl rfl ?_)
   refine un1 (v:=(B false)) rfl<|dnil ?_
   exact Sv.weak (wcn [0] rfl (.cf rfl rfl (.cf rfl rfl (.cons rfl (.c (lsr rfl rfl)) .nil))) (.row (by decide) rfl (fr_map fun _=>rfl) .nil)) (Zbh hzb h hself hK0 hr)
 ·refine Sv.exit ?_
  exact hK0 b_ zb hzb h _ (wcn [0] rfl (.cons rfl (.c (lsr rfl rfl)) .nil) (.row (by decide) rfl (fr_map fun _=>rfl) .nil))
noncomputable def Z40 (s_:Tx):Option Tx :=
 limF fun kk=>Z1l (fun (b_1:(List Int)) => 
   some (byts b_1)) kk (ints s_) 0
theorem Zbj {mL:Int}{s_:Tx}{r:Tx}(h:Z40 s_=some r):CPure Tryz.prog (GG mL) 36 [(S s_)] (S r):=by
 refine acalls_of_sv hmix c36 (R:=Z6d r) ?_
 unfold Z40 at h
 refine ssr<|un1 rfl<|dnil<|ssr<|un1 rfl<|un<|a2v (v:=(lstV false 0 1 (ints s_).length)) (h' := upd _ 0 (lstB false 1 ((ints s_).map (eK .u8)))) (n' := 1) rfl (s_toBytes rfl) hcs<|un1 rfl<|dnil<|Sv.seq<|ssr<|un1 rfl<|dnil<|Sv.block ?_
 obtain ⟨kk,h⟩:=limF_some h
 refine Sv.weak (wcn [0] rfl (.cf rfl rfl (.cons rfl (.c (lsr rfl rfl)) .nil)) (.row (by decide) rfl (fr_map fun _=>rfl) .nil)) (Zgc hcs h ?_ (fun s hs=>hs))
 ·intro b_1 zb_1 hzb_1 h _ hw1
  refine Sv.weak hw1<|ssr<|un1 rfl<|un1 (v:=(S (byts b_1))) (s_ofBytes (xs:=b_1) rfl (slc_lst rfl (List.length_map _).symm (map_nil_of hzb_1)))<|un1 rfl<|dnil<|Sv.ret ?_
  exact rt0 h rfl rfl ⟨rfl,rfl,rfl⟩
def a87_c0:ACode:=(sr [(oP 41 (.load true 4 (.tmp 7))),(oN (.store 4 (.tmp 6) (.tmp 41)))]
 .ret)
def a87:AFunc:=⟨3,[(.cell true 4 6)],(sr [(oP 6 (.box (.const (.agg [(.val (.int .i64 0)),(.str []),(.str []),(.val (.int .i64 0))]))))]
 (sr [(mV 10 0),(mV 11 2),(oP 12 (.slStr (.tmp 10) none (some (.tmp 11)))),(mV 13 1),(oP 14 (.build [(.val (.int .i64 0)),(.str []),(.str []),(.val (.int .i64 0))] [(0,(1,(kI 7))),(1,(1,(.tmp 12))),(3,(1,(.tmp 13)))])),(oP 7 (.box (.const (.agg [(.val (.int .i64 0)),(.str []),(.str []),(.val (.int .i64 0))])))),(oN (.store 4 (.tmp 7) (.tmp 14)))]
 (.seq (sr [(mV 15 0),(mV 16 2),(oP 17 (.call 83 [(.tmp 15),(.tmp 16)])),(oP 18 (.bin .eql (.tmp 17) (.const (.c (.val (.int .u8 37))))))]
 (.cond (.tmp 18) (sr [(mV 19 0),(mV 20 2),(oP 21 (.bin .add (.tmp 20) (kI 1))),(oP 22 (.slStr (.tmp 19) none (some (.tmp 21)))),(oP 23 (.faddr 1 (.tmp 7))),(oN (.store 1 (.tmp 23) (.tmp 22)))]
 (.region [(oP 24 (.faddr 2 (.tmp 7))),(oN (.store 1 (.tmp 24) (.const (.c (.str [37])))))])) (sr [(mV 25 0),(mV 26 2),(oP 27 (.call 91 [(.tmp 25),(.tmp 26)]))]
 (.cond (.tmp 27) (sr [(mV 29 0),(mV 30 2),(oP 31 (.call 90 [(.tmp 29),(.tmp 30)])),(mV 28 31),(oP 32 (.ext (.tmp 28) 0)),(oP 33 (.ext (.tmp 28) 1)),(mV 8 32),(mV 9 33)]
 (sr [(mV 34 0),(mV 35 9),(oP 36 (.slStr (.tmp 34) none (some (.tmp 35)))),(oP 37 (.faddr 1 (.tmp 7))),(oN (.store 1 (.tmp 37) (.tmp 36)))]
 (.region [(mV 38 8),(oP 39 (.call 36 [(.tmp 38)])),(oP 40 (.faddr 2 (.tmp 7))),(oN (.store 1 (.tmp 40) (.tmp 39)))]))) .skip))))
 a87_c0)))⟩
theorem c87:compFunc Tryz.prog 87=some a87:=by kernel_rfl
def Zbk (r:TSToken):AV→Heap→Nat→Prop:=fun v h' n' => v=(.agg (e_TSToken r))∧(h' = e0)∧n' = 0
noncomputable def Z41 (n_:Int) (t1:Tx) (t2:Tx):Option TSToken :=
 some (⟨7,t1,t2,n_⟩:TSToken)
theorem Z81 {mL:Int}{n_:Int}{t1:Tx}{t2:Tx}{o:TSToken}(h:Z41 n_ t1 t2=some o) :
  Sv Tryz.prog (GG mL) 0 a87_c0 (Ends a87.results 0 (Zbk o)) ⟨(ue [(7,(.c (.ref 1 4 0 0))),(6,(.c (.ref 0 4 0 0)))]),(upd (upd e0 0 (some (.cells 4 [[cI 0,.str [],.str [],cI 0]]))) 1 (some (.cells 4 [[cI 7,.str t1,.str t2,cI n_]]))),2⟩:=by
 unfold Z41 at h
 refine ssr<|un1 (v:=(.agg [cI 7,.str t1,.str t2,cI n_])) rfl<|un<|a2n (h' := upd _ 0 (some (.cells 4 [[cI 7,.str t1,.str t2,cI n_]]))) (n' := 2) rfl rfl hcs<|dnil<|Sv.ret ?_
 exact rt0 h rfl rfl ⟨rfl,rfl,rfl⟩
noncomputable def Z55 (s_:Tx) (n_:Int) (end_:Int):Option TSToken :=
 (sub? s_ 0 end_).bind fun r_ =>
 (Zm s_ end_).bind fun r_1 =>
 if decide (r_1=37) then
  (sub? s_ 0 (wi (end_+1))).bind fun r_2 =>
  Z41 n_ r_2 [37]
 else
  (Z2u s_ end_).bind fun r_3 =>
  if r_3 then
   (Z1w s_ end_).bind fun r_4 =>
   (sub? s_ 0 r_4.2).bind fun r_5 =>
   (Z40 r_4.1).bind fun r_6 =>
   Z41 n_ r_5 r_6
  else
   Z41 n_ r_ []
theorem Zgd {mL:Int}{s_:Tx}{n_:Int}{end_:Int}{r:TSToken}(h:Z55 s_ n_ end_=some r):CPure Tryz.prog (GG mL) 87 [(S s_),(I n_),(I end_)] (.agg (e_TSToken r)):=by
 refine acalls_of_sv hmix c87 (R:=Zbk r) ?_
 unfold Z55 at h
 refine ssr<|un<|a2v (v:=(.c (.ref 0 4 0 0))) (h' := upd _ 0 (some (.cells 4 [[cI 0,.str [],.str [],cI 0]]))) (n' := 1) rfl rfl hcs<|dnil<|ssr<|un1 rfl<|un1 rfl ?_
 obtain ⟨r_,hx1,h⟩:=bnd h
 refine un1 (v:=(S r_)) (s_slStr rfl rfl rfl hx1)<|un1 rfl<|un1 (v:=(.agg [cI 7,.str r_,.str [],cI n_])) rfl<|un<|a2v (v:=(.c (.ref 1 4 0 0))) (h' := upd _ 1 (some (.cells 4 [[cI 0,.str [],.str [],cI 0]]))) (n' := 2) rfl rfl hcs<|un<|a2n (h' := upd _ 1 (some (.cells 4 [[cI 7,.str r_,.str [],cI n_]]))) (n' := 2) rfl rfl hcs<|dnil<|Sv.seq<|ssr<|un1 rfl<|un1 rfl ?_
 obtain ⟨r_1,hr1,h⟩:=bnd h
 refine un<|ac_pure (Z1u hr1) rfl rfl rfl<|un1 (v:=(B (decide (r_1=37)))) rfl<|dnil ?_
 refine Sv.cnd rfl h (fun h=>?_) fun h=>?_
 ·refine ssr<|un1 rfl<|un1 rfl<|un1 (v:=(I (wi (end_+1)))) rfl ?_
  obtain ⟨r_2,hx2,h⟩:=bnd h
  refine un1 (v:=(S r_2)) (s_slStr rfl rfl rfl hx2)<|un1 (v:=(.c (.ref 1 4 0 1))) rfl<|un<|a2n (h' := upd _ 1 (some (.cells 4 [[cI 7,.str r_2,.str [],cI n_]]))) (n' := 2) rfl rfl hcs<|dnil<|srg<|un1 (v:=(.c (.ref 1 4 0 2))) rfl<|un<|a2n (h' := upd _ 1 (some (.cells 4 [[cI 7,.str r_2,.str [37],cI n_]]))) (n' := 2) rfl rfl hcs<|dnil ?_
  exact Sv.weak (wcn [0,1] rfl (.cr rfl rfl rfl (.cr rfl rfl rfl .nil)) (.box (by decide) rfl (blkAs_cells (.sm rfl (.sm rfl (.sm rfl (.sm rfl .nil))))) (.box (by decide) rfl (blkAs_cells (.sm rfl (.sm rfl (.sm rfl (.sm rfl .nil))))) .nil))) (Z81 h)
 ·refine ssr<|un1 rfl<|un1 rfl ?_
  obtain ⟨r_3,hr2,h⟩:=bnd h
  refine un<|ac_pure (Z7v hr2) rfl rfl rfl<|dnil ?_
  refine Sv.cnd rfl h (fun h=>?_) fun h=>?_
  ·refine ssr<|un1 rfl<|un1 rfl ?_
   obtain ⟨r_4,hr3,h⟩:=bnd h
   refine un<|ac_pure (Z6c hr3) rfl rfl rfl<|un1 rfl<|un1 (v:=(S r_4.1)) rfl<|un1 (v:=(I r_4.2)) rfl<|un1 rfl<|un1 rfl<|dnil<|ssr<|un1 rfl<|un1 rfl ?_
   obtain ⟨r_5,hx3,h⟩:=bnd h
   refine un1 (v:=(S r_5)) (s_slStr rfl rfl rfl hx3)<|un1 (v:=(.c (.ref 1 4 0 1))) rfl<|un<|a2n (h' := upd _ 1 (some (.cells 4 [[cI 7,.str r_5,.str [],cI n_]]))) (n' := 2) rfl rfl hcs<|dnil<|srg<|un1 rfl ?_
   obtain ⟨r_6,hr4,h⟩:=bnd h
   refine un<|ac_pure (Zbj hr4) rfl rfl rfl<|un1 (v:=(.c (.ref 1 4 0 2))) rfl<|un<|a2n (h' := upd _ 1 (some (.cells 4 [[cI 7,.str r_5,.str r_6,cI n_]]))) (n' := 2) rfl rfl hcs<|dnil ?_
   exact Sv.weak (wcn [0,1] rfl (.cr rfl rfl rfl (.cr rfl rfl rfl .nil)) (.box (by decide) rfl (blkAs_cells (.sm rfl (.sm rfl (.sm rfl (.sm rfl .nil))))) (.box (by decide) rfl (blkAs_cells (.sm rfl (.sm rfl (.sm rfl (.sm rfl .nil))))) .nil))) (Z81 h)
  ·refine Sv.skip ?_
   exact Sv.weak (wcn [0,1] rfl (.cr rfl rfl rfl (.cr rfl rfl rfl .nil)) (.box (by decide) rfl (blkAs_cells (.sm rfl (.sm rfl (.sm rfl (.sm rfl .nil))))) (.box (by decide) rfl (blkAs_cells (.sm rfl (.sm rfl (.sm rfl (.sm rfl .nil))))) .nil))) (Z81 h)
end Go.Proofs.YtnfgjdbajefoiaaGreatDoorBv
