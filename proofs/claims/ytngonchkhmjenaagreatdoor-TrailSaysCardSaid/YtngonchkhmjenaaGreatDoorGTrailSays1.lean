/- Printed by a program of mine (bgen.py): plain functions, and the walks that show that the code comes to what they answer. -/
import Derived.Test.YtngonchkhmjenaaGreatDoorGTrailSays0
namespace Go.Proofs.YtngonchkhmjenaaGreatDoorBv
open Go
set_option linter.unusedVariables false
set_option linter.unusedSimpArgs false
set_option maxRecDepth 100000
def a20_c0:ACode:=(sr [(mV 21 5),(oP 22 (.call 22 [(.tmp 21)])),(mV 23 5),(oP 24 (.len (.tmp 23))),(oP 25 (.bin .sub (.tmp 24) (kI 1))),(oP 26 (.build [(.ro true 3 []),(.val (.int .i64 0))] [(0,(1,(.tmp 22))),(1,(1,(.tmp 25)))])),(oN (.store 2 (.tmp 4) (.tmp 26)))]
 .ret)
def a20:AFunc:=⟨2,[(.cell true 2 4)],(sr [(oP 2 (.box (.tmp 0))),(oP 3 (.box (.tmp 1))),(oP 4 (.box (.const (.agg [(.ro true 3 []),(.val (.int .i64 0))]))))]
 (.seq (.drawn (.alt [((oP 6 (.faddr 0 (.tmp 2))),(0,0)),((oP 7 (.load false 1 (.tmp 6))),(0,1)),((oP 8 (.faddr 1 (.tmp 2))),(0,2)),((oP 9 (.load false 1 (.tmp 8))),(0,3)),((oP 10 (.bin .add (.tmp 9) (kI 1))),(0,4)),((oP 11 (.slSl 3 (.tmp 7) none (some (.tmp 10)) none)),(0,5)),((oP 13 (.load true 3 (.tmp 3))),(0,7))] (.fin [((oP 12 (.call 22 [(.tmp 11)])),(1,6)),((oP 14 (.bslice 3 [(.str []),(.str []),(.val (.int .i64 0))] 1 [(0,(.tmp 13))])),(1,8)),((oP 15 (.app 3 40 (.tmp 12) (.tmp 14))),(2,9)),((mV 5 15),(0,10))]) (.fin [((oP 14 (.bslice 3 [(.str []),(.str []),(.val (.int .i64 0))] 1 [(0,(.tmp 13))])),(1,8)),((oP 12 (.call 22 [(.tmp 11)])),(1,6)),((oP 15 (.app 3 40 (.tmp 12) (.tmp 14))),(2,9)),((mV 5 15),(0,10))])))
 (.seq (sr [(mV 16 5),(oP 17 (.len (.tmp 16))),(oP 18 (.bin .gtr (.tmp 17) (kI 50)))]
 (.cond (.tmp 18) (.region [(mV 19 5),(oP 20 (.slSl 3 (.tmp 19) (some (kI 1)) none none)),(mV 5 20)]) .skip))
 a20_c0)))⟩
theorem c20:compFunc Tryz.prog 20=some a20:=by kernel_rfl
def Z9e (r:TJTrail):AV→Heap→Nat→Prop:=fun v h' n' => v=(.agg (e_TJTrail r))∧(h' = e0)∧n' = 0
noncomputable def Z38 (l_:(List TJEntry)):Option TJTrail :=
 (Z1d l_).bind fun r_3 =>
 some (⟨r_3,(wi ((l_.length:Int) - 1))⟩:TJTrail)
theorem Z5t {mL:Int}{l_:(List TJEntry)}{o:TJTrail}(h:Z38 l_=some o) :
  Sv Tryz.prog (GG mL) 0 a20_c0 (Ends a20.results 0 (Z9e o)) ⟨(ue [(5,(.c (.ro false 3 (l_.map e_TJEntry)))),(4,(.c (.ref 0 2 0 0)))]),(upd e0 0 (some (.cells 2 [[.ro true 3 [],cI 0]]))),1⟩:=by
 unfold Z38 at h
 refine ssr<|un1 rfl ?_
 obtain ⟨r_3,hr3,h⟩:=bnd h
 refine un<|ac_gen (bs:=[]) («as»:=[(.c (.ro false 3 (l_.map e_TJEntry)))]) (h2:=_) (h1:=e0) (Z2k hr3) rfl (.cons (avAs_free rfl) .nil) (hsub_refl _) (.nil _) (fun _=>rfl) (by decide) (by decide) (.cons (avAs_free rfl) .nil) .nil ?_
 rintro _ _ _ hn ⟨z_1,hz_1,rfl,rfl,rfl⟩
 refine ⟨.inl rfl,(upd (rem [] _) 1 (lstB z_1 3 (r_3.map e_TJEntry))),fun hbd=>(m3_cons (m3_row rfl (fr_map fun _=>rfl)) (m3_rem (in_nil _) (.cons (by decide) .nil) hbd)),(lstV z_1 1 3 r_3.length),2,(by cases z_1 <;> rfl),rfl,?_⟩
 refine un1 rfl<|un1 (v:=(I (l_.length:Int))) (s_len (e:=e_TJEntry) (xs:=l_) rfl)<|un1 (v:=(I (wi ((l_.length:Int) - 1)))) rfl<|un1 (v:=(.agg [lstC z_1 1 3 r_3.length,cI (wi ((l_.length:Int) - 1))])) rfl<|un<|a2n (h' := upd _ 0 (some (.cells 2 [[lstC z_1 1 3 r_3.length,cI (wi ((l_.length:Int) - 1))]]))) (n' := 2) rfl rfl hcs<|dnil<|Sv.ret ?_
 replace h:=Option.some.inj h
 subst h
 exact ⟨_,.refl _,_,rfl,⟨upd e0 0 (some (.agg [.ro false 3 (r_3.map e_TJEntry),cI (wi ((l_.length:Int) - 1))])),e0,0⟩,(.agg [.ro false 3 (r_3.map e_TJEntry),cI (wi ((l_.length:Int) - 1))]),weak_canon [] rfl ndl nll nlz (.cons rfl (avAs_agg (.cons (lstC_ro (es:=List.map e_TJEntry r_3) rfl (List.length_map e_TJEntry).symm (map_nil_of hz_1) (fun b x hx=>not_in (bs:=[]) rfl b (((.nil):HLt _ _) b x hx)) (fr_map fun _=>rfl)) (.sm rfl .nil))) .nil) .nil,rfl,rfl,rfl,rfl⟩
noncomputable def Z39 (t_:TJTrail) (e_:TJEntry):Option TJTrail :=
 (sub? t_.Entries 0 (wi (t_.At+1))).bind fun r_ =>
 (Z1d r_).bind fun r_1 =>
 (app? 40 r_1 [e_]).bind fun r_2 =>
 if decide (50<(r_2.length:Int)) then
  (sub? r_2 1 (r_2.length:Int)).bind fun r_4 =>
  Z38 r_4
 else
  Z38 r_2
theorem Z9f {mL:Int}{t_:TJTrail}{e_:TJEntry}{r:TJTrail}(h:Z39 t_ e_=some r):CPure Tryz.prog (GG mL) 20 [(.agg (e_TJTrail t_)),(.agg (e_TJEntry e_))] (.agg (e_TJTrail r)):=by
 refine acalls_of_sv hmix c20 (R:=Z9e r) ?_
 unfold Z39 at h
 refine ssr<|un<|a2v (v:=(.c (.ref 0 2 0 0))) (h' := upd _ 0 (some (.cells 2 [(e_TJTrail t_)]))) (n' := 1) rfl rfl hcs<|un<|a2v (v:=(.c (.ref 1 3 0 0))) (h' := upd _ 1 (some (.cells 3 [(e_TJEntry e_)]))) (n' := 2) rfl rfl hcs<|un<|a2v (v:=(.c (.ref 2 2 0 0))) (h' := upd _ 2 (some (.cells 2 [[.ro true 3 [],cI 0]]))) (n' := 3) rfl rfl hcs<|dnil<|Sv.seq<|Sv.drawn2<|un1 (v:=(.c (.ref 0 2 0 0))) rfl<|un1 (v:=(.c (.ro false 3 (t_.Entries.map e_TJEntry)))) rfl<|un1 (v:=(.c (.ref 0 2 0 1))) rfl<|un1 (v:=(I t_.At)) rfl<|un1 (v:=(I (wi (t_.At+1)))) rfl ?_
 obtain ⟨r_,hx1,h⟩:=bnd h
 refine un1 (v:=(.c (.ro false 3 (r_.map e_TJEntry)))) (s_slSl (e:=e_TJEntry) rfl rfl rfl hx1)<|un1 (v:=(.agg (e_TJEntry e_))) rfl<|dnil ?_
 refine ⟨?_,?_⟩
 ·obtain ⟨r_1,hr1,h⟩:=bnd h
  refine un<|ac_gen (bs:=[]) («as»:=[(.c (.ro false 3 (r_.map e_TJEntry)))]) (h2:=_) (h1:=e0) (Z2k hr1) rfl (.cons (avAs_free rfl) .nil) (hsub_refl _) (.nil _) (fun _=>rfl) (by decide) (by decide) (.cons (avAs_free rfl) .nil) .nil ?_
  rintro _ _ _ hn ⟨z_,hz_,rfl,rfl,rfl⟩
  refine ⟨.inl rfl,(upd (rem [] _) 3 (lstB z_ 3 (r_1.map e_TJEntry))),fun hbd=>(m3_cons (m3_row rfl (fr_map fun _=>rfl)) (m3_rem (in_nil _) (.cons (by decide) .nil) hbd)),(lstV z_ 3 3 r_1.length),4,(by cases z_ <;> rfl),rfl,?_⟩
  refine un<|a2v (v:=(lstV false 4 3 [e_].length)) (h' := upd _ 4 (lstB false 3 ([e_].map e_TJEntry))) (n' := 5) rfl rfl (fun _=>rfl) ?_
  obtain ⟨r_2,hr2,h⟩:=bnd h
  have hz1:(z_&&[e_].isEmpty)=true→r_2=[]:=app_nil (z:=z_) (ys:=[e_]) hz_ hr2
  refine un<|a2v rfl (s_app (xs:=r_1) (ys:=[e_]) (e:=e_TJEntry) (z:=z_) (b:=3) rfl rfl hz_ rfl rfl (slc_lst rfl (List.length_map _).symm (map_nil_of hcs)) hr2) hcs<|un1 rfl<|dnil<|Sv.seq<|ssr<|un1 rfl<|un1 (v:=(I (r_2.length:Int))) (s_lenL rfl (len_nil_of hz1))<|un1 (v:=(B (decide (50<(r_2.length:Int))))) rfl<|dnil ?_
  refine Sv.cnd rfl h (fun h=>?_) fun h=>?_
  ·refine Sv.weak (show Weak 0 _ ⟨(ue [(18,(B (decide (50<(r_2.length:Int))))),(17,(I (r_2.length:Int))),(16,(.c (.ro false 3 (r_2.map e_TJEntry)))),(15,(.c (.ro false 3 (r_2.map e_TJEntry)))),(14,(lstV false 4 3 [e_].length)),(13,(.agg (e_TJEntry e_))),(11,(.c (.ro false 3 (r_.map e_TJEntry)))),(10,(I (wi (t_.At+1)))),(9,(I t_.At)),(8,(.c (.ref 0 2 0 1))),(7,(.c (.ro false 3 (t_.Entries.map e_TJEntry)))),(6,(.c (.ref 0 2 0 0))),(5,(.c (.ro false 3 (r_2.map e_TJEntry)))),(4,(.c (.ref 2 2 0 0))),(3,(.c (.ref 1 3 0 0))),(2,(.c (.ref 0 2 0 0))),(1,(.agg (e_TJEntry e_))),(0,(.agg (e_TJTrail t_)))]),(upd (upd (upd (upd e0 0 (some (.cells 2 [(e_TJTrail t_)]))) 1 (some (.cells 3 [(e_TJEntry e_)]))) 2 (some (.cells 2 [[.ro true 3 [],cI 0]]))) 4 (lstB false 3 ([e_].map e_TJEntry))),6⟩ from (wcn [0,1,2,1003,4,1005] rfl (.cf rfl rfl (.cf rfl rfl (.cons rfl (.c (lstC_ro (es:=List.map e_TJEntry r_2) rfl (List.length_map e_TJEntry).symm (map_nil_of hz1) (fun b x hx=>not_in (bs:=[0,1,2,1003,4,1005]) rfl b (((.cons (by decide) (.cons (by decide) (.cons (by decide) (.cons (by decide) .nil)))):HLt _ _) b x hx)) (fr_map fun _=>rfl))) (.cons rfl (.c (lstC_ro (es:=List.map e_TJEntry r_2) rfl (List.length_map e_TJEntry).symm (map_nil_of hz1) (fun b x hx=>not_in (bs:=[0,1,2,1003,4,1005]) rfl b (((.cons (by decide) (.cons (by decide) (.cons (by decide) (.cons (by decide) .nil)))):HLt _ _) b x hx)) (fr_map fun _=>rfl))) (.cons rfl (.c (lsr rfl rfl)) (.cf rfl rfl (.cf rfl rfl (.cf rfl rfl (.cf rfl rfl (.cr rfl rfl rfl (.cf rfl rfl (.cr rfl rfl rfl (.cons rfl (.c (lstC_ro (es:=List.map e_TJEntry r_2) rfl (List.length_map e_TJEntry).symm (map_nil_of hz1) (fun b x hx=>not_in (bs:=[0,1,2,1003,4,1005]) rfl b (((.cons (by decide) (.cons (by decide) (.cons (by decide) (.cons (by decide) .nil)))):HLt _ _) b x hx)) (fr_map fun _=>rfl))) (.cr rfl rfl rfl (.cr rfl rfl rfl (.cr rfl rfl rfl (.cf rfl rfl (.cf rfl rfl .nil)))))))))))))))))) (.row (by decide) rfl (fr_map fun _=>rfl) (.box (by decide) rfl (blkAs_cells (.sm rfl (.sm rfl .nil))) (.box (by decide) rfl (blkAs_cells (.sm rfl (.sm rfl (.sm rfl .nil)))) (.box (by decide) rfl (blkAs_cells (.sm rfl (.sm rfl .nil))) .nil))))))<|srg<|un1 rfl ?_
   obtain ⟨r_4,hx2,h⟩:=bnd h
   refine un1 (v:=(.c (.ro false 3 (r_4.map e_TJEntry)))) (s_slSl (e:=e_TJEntry) rfl rfl rfl hx2)<|un1 rfl<|dnil ?_
   exact Sv.weak (wcn [2] rfl (.cf rfl rfl (.cr rfl rfl rfl .nil)) (.box (by decide) rfl (blkAs_cells (.sm rfl (.sm rfl .nil))) .nil)) (Z5t h)
  ·refine Sv.skip ?_
   exact Sv.weak (wcn [2] rfl (.cons rfl (.c (lstC_ro (es:=List.map e_TJEntry r_2) rfl (List.length_map e_TJEntry).symm (map_nil_of hz1) (fun b x hx=>not_in (bs:=[2]) rfl b (((.cons (by decide) .nil):HLt _ _) b x hx)) (fr_map fun _=>rfl))) (.cr rfl rfl rfl .nil)) (.box (by decide) rfl (blkAs_cells (.sm rfl (.sm rfl .nil))) .nil)) (Z5t h)
 ·refine un<|a2v (v:=(lstV false 3 3 [e_].length)) (h' := upd _ 3 (lstB false 3 ([e_].map e_TJEntry))) (n' := 4) rfl rfl (fun _=>rfl) ?_
  obtain ⟨r_1,hr1,h⟩:=bnd h
  refine un<|ac_gen (bs:=[]) («as»:=[(.c (.ro false 3 (r_.map e_TJEntry)))]) (h2:=_) (h1:=e0) (Z2k hr1) rfl (.cons (avAs_free rfl) .nil) (hsub_refl _) (.nil _) (fun _=>rfl) (by decide) (by decide) (.cons (avAs_free rfl) .nil) .nil ?_
  rintro _ _ _ hn ⟨z_,hz_,rfl,rfl,rfl⟩
  refine ⟨.inl rfl,(upd (rem [] _) 4 (lstB z_ 3 (r_1.map e_TJEntry))),fun hbd=>(m3_cons (m3_row rfl (fr_map fun _=>rfl)) (m3_rem (in_nil _) (.cons (by decide) .nil) hbd)),(lstV z_ 4 3 r_1.length),5,(by cases z_ <;> rfl),rfl,?_⟩
  obtain ⟨r_2,hr2,h⟩:=bnd h
  have hz1:(z_&&[e_].isEmpty)=true→r_2=[]:=app_nil (z:=z_) (ys:=[e_]) hz_ hr2
  refine un<|a2v rfl (s_app (xs:=r_1) (ys:=[e_]) (e:=e_TJEntry) (z:=z_) (b:=4) rfl rfl hz_ rfl rfl (slc_lst rfl (List.length_map _).symm (map_nil_of hcs)) hr2) hcs<|un1 rfl<|dnil<|Sv.seq<|ssr<|un1 rfl<|un1 (v:=(I (r_2.length:Int))) (s_lenL rfl (len_nil_of hz1))<|un1 (v:=(B (decide (50<(r_2.length:Int))))) rfl<|dnil ?_
  refine Sv.cnd rfl h (fun h=>?_) fun h=>?_
  ·refine Sv.weak (show Weak 0 _ ⟨(ue [(18,(B (decide (50<(r_2.length:Int))))),(17,(I (r_2.length:Int))),(16,(.c (.ro false 3 (r_2.map e_TJEntry)))),(15,(.c (.ro false 3 (r_2.map e_TJEntry)))),(14,(lstV false 3 3 [e_].length)),(13,(.agg (e_TJEntry e_))),(11,(.c (.ro false 3 (r_.map e_TJEntry)))),(10,(I (wi (t_.At+1)))),(9,(I t_.At)),(8,(.c (.ref 0 2 0 1))),(7,(.c (.ro false 3 (t_.Entries.map e_TJEntry)))),(6,(.c (.ref 0 2 0 0))),(5,(.c (.ro false 3 (r_2.map e_TJEntry)))),(4,(.c (.ref 2 2 0 0))),(3,(.c (.ref 1 3 0 0))),(2,(.c (.ref 0 2 0 0))),(1,(.agg (e_TJEntry e_))),(0,(.agg (e_TJTrail t_)))]),(upd (upd (upd (upd e0 0 (some (.cells 2 [(e_TJTrail t_)]))) 1 (some (.cells 3 [(e_TJEntry e_)]))) 2 (some (.cells 2 [[.ro true 3 [],cI 0]]))) 3 (lstB false 3 ([e_].map e_TJEntry))),6⟩ from (wcn [0,1,2,3,1004,1005] rfl (.cf rfl rfl (.cf rfl rfl (.cons rfl (.c (lstC_ro (es:=List.map e_TJEntry r_2) rfl (List.length_map e_TJEntry).symm (map_nil_of hz1) (fun b x hx=>not_in (bs:=[0,1,2,3,1004,1005]) rfl b (((.cons (by decide) (.cons (by decide) (.cons (by decide) (.cons (by decide) .nil)))):HLt _ _) b x hx)) (fr_map fun _=>rfl))) (.cons rfl (.c (lstC_ro (es:=List.map e_TJEntry r_2) rfl (List.length_map e_TJEntry).symm (map_nil_of hz1) (fun b x hx=>not_in (bs:=[0,1,2,3,1004,1005]) rfl b (((.cons (by decide) (.cons (by decide) (.cons (by decide) (.cons (by decide) .nil)))):HLt _ _) b x hx)) (fr_map fun _=>rfl))) (.cons rfl (.c (lsr rfl rfl)) (.cf rfl rfl (.cf rfl rfl (.cf rfl rfl (.cf rfl rfl (.cr rfl rfl rfl (.cf rfl rfl (.cr rfl rfl rfl (.cons rfl (.c (lstC_ro (es:=List.map e_TJEntry r_2) rfl (List.length_map e_TJEntry).symm (map_nil_of hz1) (fun b x hx=>not_in (bs:=[0,1,2,3,1004,1005]) rfl b (((.cons (by decide) (.cons (by decide) (.cons (by decide) (.cons (by decide) .nil)))):HLt _ _) b x hx)) (fr_map fun _=>rfl))) (.cr rfl rfl rfl (.cr rfl rfl rfl (.cr rfl rfl rfl (.cf rfl rfl (.cf rfl rfl .nil)))))))))))))))))) (.row (by decide) rfl (fr_map fun _=>rfl) (.box (by decide) rfl (blkAs_cells (.sm rfl (.sm rfl .nil))) (.box (by decide) rfl (blkAs_cells (.sm rfl (.sm rfl (.sm rfl .nil)))) (.box (by decide) rfl (blkAs_cells (.sm rfl (.sm rfl .nil))) .nil))))))<|srg<|un1 rfl ?_
   obtain ⟨r_4,hx2,h⟩:=bnd h
   refine un1 (v:=(.c (.ro false 3 (r_4.map e_TJEntry)))) (s_slSl (e:=e_TJEntry) rfl rfl rfl hx2)<|un1 rfl<|dnil ?_
   exact Sv.weak (wcn [2] rfl (.cf rfl rfl (.cr rfl rfl rfl .nil)) (.box (by decide) rfl (blkAs_cells (.sm rfl (.sm rfl .nil))) .nil)) (Z5t h)
  ·refine Sv.skip ?_
   exact Sv.weak (wcn [2] rfl (.cons rfl (.c (lstC_ro (es:=List.map e_TJEntry r_2) rfl (List.length_map e_TJEntry).symm (map_nil_of hz1) (fun b x hx=>not_in (bs:=[2]) rfl b (((.cons (by decide) .nil):HLt _ _) b x hx)) (fr_map fun _=>rfl))) (.cr rfl rfl rfl .nil)) (.box (by decide) rfl (blkAs_cells (.sm rfl (.sm rfl .nil))) .nil)) (Z5t h)
def a5_c1:ACode:=(sr [(oP 40 (.bin .lss (.tmp 39) (.tmp 38)))]
 (.seq (.cond (.tmp 40) .skip (.exit 0))
 (.seq (.block 1 (sr [(oP 41 (.iaddr 3 (.tmp 37) (.tmp 39))),(oP 42 (.load true 3 (.tmp 41))),(oP 10 (.box (.const (.agg [(.str []),(.str []),(.val (.int .i64 0))])))),(oN (.store 3 (.tmp 10) (.tmp 42)))]
 (.region [(mV 43 8),(oP 44 (.faddr 2 (.tmp 10))),(oP 45 (.load false 1 (.tmp 44))),(oP 46 (.bin .add (.tmp 45) (kI 1))),(oP 47 (.mm true [(.tmp 43),(.tmp 46)])),(mV 8 47)])))
 (.region [(oP 48 (.bin .add (.tmp 39) (kI 1))),(mV 39 48)]))))
def a5_c0:ACode:=(.cond (.tmp 35) (sr [(oP 8 (.mov (kI 0)))]
 (sr [(oP 36 (.faddr 0 (.tmp 2))),(oP 37 (.load false 1 (.tmp 36))),(oP 38 (.len (.tmp 37))),(oP 39 (.mov (kI 0)))]
 (.block 0 (.loop a5_c1)))) .skip)
def a5_c2:ACode:=(.seq (sr [(mV 49 8),(oP 50 (.bin .gtr (.tmp 49) (kI 1000000)))]
 (.cond (.tmp 50) (sr [(oP 51 (.build [(.ro true 3 []),(.val (.int .i64 0))] [])),(oN (.store 2 (.tmp 4) (.tmp 51))),(oP 5 (.mov (kI 2)))]
 .ret) .skip))
 (sr [(oP 52 (.load true 2 (.tmp 2))),(mV 53 6),(mV 54 8),(oP 55 (.build [(.str []),(.str []),(.val (.int .i64 0))] [(0,(1,(.tmp 53))),(2,(1,(.tmp 54)))])),(oP 56 (.call 20 [(.tmp 52),(.tmp 55)])),(oN (.store 2 (.tmp 4) (.tmp 56))),(oP 5 (.mov (kI 0)))]
 .ret))
def a5:AFunc:=⟨2,[(.cell true 2 4),(.tmp 5)],(sr [(oP 2 (.box (.tmp 0))),(oP 4 (.box (.const (.agg [(.ro true 3 []),(.val (.int .i64 0))])))),(oP 5 (.mov (kI 0)))]
 (sr [(oP 12 (.load true 2 (.tmp 2))),(mV 13 1),(oP 14 (.call 16 [(.tmp 12),(.tmp 13)])),(mV 11 14),(oP 15 (.ext (.tmp 11) 0)),(oP 16 (.ext (.tmp 11) 1)),(mV 6 15),(mV 7 16)]
 (.seq (sr [(mV 17 7),(oP 18 (.bin .neq (.tmp 17) (kI 0)))]
 (.cond (.tmp 18) (sr [(oP 19 (.build [(.ro true 3 []),(.val (.int .i64 0))] [])),(mV 20 7),(oN (.store 2 (.tmp 4) (.tmp 19))),(mV 5 20)]
 .ret) .skip))
 (sr [(oP 21 (.load true 2 (.tmp 2))),(oP 22 (.call 17 [(.tmp 21)])),(oP 23 (.fld false 2 1 (.tmp 22))),(mV 8 23)]
 (.seq (.seq (.drawn (.fin [((mV 24 1),(0,0)),((oP 25 (.call 18 [(.tmp 24),(.const (.c (.str [35])))])),(1,1)),((oP 26 (.un .not (.tmp 25))),(0,2)),((mV 27 26),(0,3)),(⟨(some 28),(.mov (.tmp 6)),(some (27,false))⟩,(0,4)),(⟨(some 30),(.load true 2 (.tmp 2)),(some (27,false))⟩,(0,6)),(⟨(some 29),(.call 19 [(.tmp 28)]),(some (27,false))⟩,(1,5)),(⟨(some 31),(.call 17 [(.tmp 30)]),(some (27,false))⟩,(2,7)),(⟨(some 32),(.fld false 0 1 (.tmp 31)),(some (27,false))⟩,(0,8)),(⟨(some 33),(.call 19 [(.tmp 32)]),(some (27,false))⟩,(2,9)),(⟨(some 34),(.bin .neq (.tmp 29) (.tmp 33)),(some (27,false))⟩,(0,10)),((oP 35 (.pick (.tmp 27) kT (.tmp 34))),(0,11))]))
 a5_c0)
 a5_c2)))))⟩
theorem c5:compFunc Tryz.prog 5=some a5:=by kernel_rfl
def Z4n (r:(TJTrail×Int)):AV→Heap→Nat→Prop:=fun v h' n' => v=(.tup [(.agg (e_TJTrail r.1)),(I r.2)])∧(h' = e0)∧n' = 0
noncomputable def Z1e (t_:TJTrail) (r_:(Tx×Int)) (doc:Int):Option (TJTrail×Int) :=
 if decide (1000000<doc) then
  some ((⟨[],0⟩:TJTrail),2)
 else
  (Z39 t_ (⟨r_.1,[],doc⟩:TJEntry)).bind fun r_2 =>
  some (r_2,0)
theorem Z9g {mL:Int}{t_:TJTrail}{r_:(Tx×Int)}{doc:Int}{o:(TJTrail×Int)}(h:Z1e t_ r_ doc=some o) :
  Sv Tryz.prog (GG mL) 0 a5_c2 (Ends a5.results 0 (Z4n o)) ⟨(ue [(8,(I doc)),(6,(S r_.1)),(4,(.c (.ref 1 2 0 0))),(2,(.c (.ref 0 2 0 0)))]),(upd (upd e0 0 (some (.cells 2 [(e_TJTrail t_)]))) 1 (some (.cells 2 [[.ro true 3 [],cI 0]]))),2⟩:=by
 unfold Z1e at h
 refine Sv.seq<|ssr<|un1 rfl<|un1 (v:=(B (decide (1000000<doc)))) rfl<|dnil ?_
 refine Sv.cnd rfl h (fun h=>?_) fun h=>?_
 ·refine ssr<|un1 (v:=(.agg [.ro true 3 [],cI 0])) rfl<|un<|a2n (h' := upd _ 1 (some (.cells 2 [[.ro true 3 [],cI 0]]))) (n' := 2) rfl rfl hcs<|un1 rfl<|dnil<|Sv.ret ?_
  replace h:=Option.some.inj h
  subst h
  exact ⟨_,.refl _,_,rfl,⟨upd e0 0 (some (.tup [(.agg [.ro false 3 (([]:List TJEntry).map e_TJEntry),cI 0]),(I 2)])),e0,0⟩,(.tup [(.agg [.ro false 3 (([]:List TJEntry).map e_TJEntry),cI 0]),(I 2)]),weak_canon [] rfl ndl nll nlz (.cons rfl (avAs_tup (.cons (avAs_agg (.cons .nil (.sm rfl .nil))) (.cons (avAs_free rfl) .nil))) .nil) .nil,rfl,rfl,rfl,rfl⟩
 ·refine Sv.skip<|ssr<|un1 (v:=(.agg (e_TJTrail t_))) rfl<|un1 rfl<|un1 rfl<|un1 (v:=(.agg [.str r_.1,.str [],cI doc])) rfl ?_
  obtain ⟨r_2,hr3,h⟩:=bnd h
  refine un<|ac_pure (Z9f hr3) rfl rfl rfl<|un<|a2n (h' := upd _ 1 (some (.cells 2 [(e_TJTrail r_2)]))) (n' := 2) rfl rfl hcs<|un1 rfl<|dnil<|Sv.ret ?_
  exact rt0 h rfl rfl ⟨rfl,rfl,rfl⟩
abbrev Ze7 (r_:(Tx×Int)) (t_:TJTrail) (F_:Int→Option (TJTrail×Int)) (o:(TJTrail×Int)) (R_:St→Prop):Prop:=∀(doc2:Int),F_ doc2=some o→∀ s,Weak 0 s ⟨(ue [(8,(I doc2)),(6,(S r_.1)),(4,(.c (.ref 1 2 0 0))),(2,(.c (.ref 0 2 0 0)))]),(upd (upd e0 0 (some (.cells 2 [(e_TJTrail t_)]))) 1 (some (.cells 2 [[.ro true 3 [],cI 0]]))),2⟩→R_ s
abbrev Z9h (r_:(Tx×Int)) (t_:TJTrail) (F_:Nat→Int→Int→Option (TJTrail×Int)) (o:(TJTrail×Int)):Nat→St→Prop:=fun k s=>∃(doc1:Int),∃(v39:Int),F_ k doc1 v39=some o∧s=⟨(ue [(39,(I v39)),(38,(I (t_.Entries.length:Int))),(37,(.c (.ro false 3 (t_.Entries.map e_TJEntry)))),(8,(I doc1)),(6,(S r_.1)),(4,(.c (.ref 1 2 0 0))),(2,(.c (.ref 0 2 0 0)))]),(upd (upd e0 0 (some (.cells 2 [(e_TJTrail t_)]))) 1 (some (.cells 2 [[.ro true 3 [],cI 0]]))),2⟩
abbrev Ze8 (r_:(Tx×Int)) (t_:TJTrail) (F_:Int→Int→Option (TJTrail×Int)) (o:(TJTrail×Int)) (R_:St→Prop):Prop:=∀(doc1:Int) (v39:Int),F_ doc1 v39=some o→∀ s,Weak 0 s ⟨(ue [(39,(I v39)),(38,(I (t_.Entries.length:Int))),(37,(.c (.ro false 3 (t_.Entries.map e_TJEntry)))),(8,(I doc1)),(6,(S r_.1)),(4,(.c (.ref 1 2 0 0))),(2,(.c (.ref 0 2 0 0)))]),(upd (upd e0 0 (some (.cells 2 [(e_TJTrail t_)]))) 1 (some (.cells 2 [[.ro true 3 [],cI 0]]))),2⟩→R_ s
noncomputable def Z11 (t_:TJTrail) (r_:(Tx×Int)) (K0_:Int→Option (TJTrail×Int)):Nat→Int→Int→Option (TJTrail×Int)
 | 0,_,_=>none
 | k+1,doc1,v39 =>
  if decide (v39<(t_.Entries.length:Int)) then
   (at? t_.Entries v39).bind fun x_ =>
   (Z11 t_ r_ K0_ k) (mx doc1 (wi (x_.Doc+1))) (wi (v39+1))
  else
   K0_ doc1
theorem Ze9 {mL:Int}{Q:AExit→St→Prop}{t_:TJTrail}{r_:(Tx×Int)}{K0_:Int→Option (TJTrail×Int)}{k:Nat}{doc1:Int}{v39:Int}{o:(TJTrail×Int)}(h:Z11 t_ r_ K0_ k doc1 v39=some o)
  (hK0:Ze7 r_ t_ K0_ o (Q (.exit 0)))
  (hr:∀ s,Ends a5.results 0 (Z4n o) .ret s→Q .ret s) :
  Sv Tryz.prog (GG mL) 0 (.loop a5_c1) Q ⟨(ue [(39,(I v39)),(38,(I (t_.Entries.length:Int))),(37,(.c (.ro false 3 (t_.Entries.map e_TJEntry)))),(8,(I doc1)),(6,(S r_.1)),(4,(.c (.ref 1 2 0 0))),(2,(.c (.ref 0 2 0 0)))]),(upd (upd e0 0 (some (.cells 2 [(e_TJTrail t_)]))) 1 (some (.cells 2 [[.ro true 3 [],cI 0]]))),2⟩:=by
 refine Sv.loop (I:=Z9h r_ t_ (Z11 t_ r_ K0_) o) (fun k s hI=>?_) ⟨doc1,v39,h,rfl⟩
 clear h
 clear v39 doc1
 obtain ⟨doc1,v39,h,rfl⟩:=hI
 cases k with
 | zero=>cases h
 | succ k =>
 rw [Z11] at h
 have hself:Ze8 r_ t_ (Z11 t_ r_ K0_ k) o (rnd 0 (Z9h r_ t_ (Z11 t_ r_ K0_) o) k Q):=fun doc1 v39 h s hw=>⟨_,k,hw,Nat.lt_succ_self k,doc1,v39,h,rfl⟩
 refine ssr<|un1 (v:=(B (decide (v39<(t_.Entries.length:Int))))) rfl<|dnil<|Sv.seq ?_
 refine Sv.cnd rfl h (fun h=>?_) fun h=>?_
 ·refine Sv.skip<|Sv.seq<|Sv.block<|ssr ?_
  obtain ⟨x_,hx1,h⟩:=bnd h
  refine un1 (v:=(.c (.rop (e_TJEntry x_)))) (s_iaddr (e:=e_TJEntry) (xs:=t_.Entries) rfl rfl hx1)<|un1 (v:=(.agg (e_TJEntry x_))) rfl<|un<|a2v (v:=(.c (.ref 2 3 0 0))) (h' := upd _ 2 (some (.cells 3 [[.str [],.str [],cI 0]]))) (n' := 3) rfl rfl hcs<|un<|a2n (h' := upd _ 2 (some (.cells 3 [(e_TJEntry x_)]))) (n' := 3) rfl rfl hcs<|dnil<|srg<|un1 rfl<|un1 (v:=(.c (.ref 2 3 0 2))) rfl<|un1 (v:=(I x_.Doc)) rfl<|un1 (v:=(I (wi (x_.Doc+1)))) rfl<|un1 (v:=(I (mx doc1 (wi (x_.Doc+1))))) (s_mx rfl rfl)<|un1 rfl<|dnil<|srg<|un1 (v:=(I (wi (v39+1)))) rfl<|un1 rfl<|dnil ?_
  exact hself (mx doc1 (wi (x_.Doc+1))) (wi (v39+1)) h _ (wcn [0,1] rfl (.cf rfl rfl (.cf rfl rfl (.cf rfl rfl (.cf rfl rfl (.cf rfl rfl (.cr rfl rfl rfl (.cr rfl rfl rfl .nil))))))) (.box (by decide) rfl (blkAs_cells (.sm rfl (.sm rfl .nil))) (.box (by decide) rfl (blkAs_cells (.sm rfl (.sm rfl .nil))) .nil)))
 ·refine Sv.exit ?_
  exact hK0 doc1 h _ (wcn [0,1] rfl (.cf rfl rfl (.cf rfl rfl (.cr rfl rfl rfl (.cr rfl rfl rfl .nil)))) (.box (by decide) rfl (blkAs_cells (.sm rfl (.sm rfl .nil))) (.box (by decide) rfl (blkAs_cells (.sm rfl (.sm rfl .nil))) .nil)))
abbrev Zea (mL:Int) (o:(TJTrail×Int)):AExit→St→Prop:=AThen (Sv Tryz.prog (GG mL) 0 a5_c2 (Ends a5.results 0 (Z4n o))) (Ends a5.results 0 (Z4n o))
noncomputable def Z1v (t_:TJTrail) (r_:(Tx×Int)) (r_1:TJEntry) (v35:Bool):Option (TJTrail×Int) :=
 if v35 then
  lim fun kk=>Z11 t_ r_ (fun (doc2:Int) => 
    Z1e t_ r_ doc2) kk 0 0
 else
  Z1e t_ r_ r_1.Doc
theorem Z9i {mL:Int}{t_:TJTrail}{r_:(Tx×Int)}{r_1:TJEntry}{v35:Bool}{o:(TJTrail×Int)}(h:Z1v t_ r_ r_1 v35=some o) :
  Sv Tryz.prog (GG mL) 0 a5_c0 (Zea mL o) ⟨(ue [(35,(B v35)),(8,(I r_1.Doc)),(6,(S r_.1)),(4,(.c (.ref 1 2 0 0))),(2,(.c (.ref 0 2 0 0)))]),(upd (upd e0 0 (some (.cells 2 [(e_TJTrail t_)]))) 1 (some (.cells 2 [[.ro true 3 [],cI 0]]))),2⟩:=by
 unfold Z1v at h
 refine Sv.cnd rfl h (fun h=>?_) fun h=>?_
 ·refine ssr<|un1 rfl<|dnil<|ssr<|un1 (v:=(.c (.ref 0 2 0 0))) rfl<|un1 (v:=(.c (.ro false 3 (t_.Entries.map e_TJEntry)))) rfl<|un1 (v:=(I (t_.Entries.length:Int))) (s_len (e:=e_TJEntry) (xs:=t_.Entries) rfl)<|un1 rfl<|dnil<|Sv.block ?_
  obtain ⟨kk,h⟩:=lim_some h
  refine Sv.weak (wcn [0,1] rfl (.cf rfl rfl (.cf rfl rfl (.cf rfl rfl (.cf rfl rfl (.cf rfl rfl (.cr rfl rfl rfl (.cr rfl rfl rfl .nil))))))) (.box (by decide) rfl (blkAs_cells (.sm rfl (.sm rfl .nil))) (.box (by decide) rfl (blkAs_cells (.sm rfl (.sm rfl .nil))) .nil))) (Ze9 h ?_ (fun s hs=>hs))
  ·intro doc2 h _ hw1
   exact Sv.weak (hw1.trans (wcn [0,1] rfl (.cf rfl rfl (.cf rfl rfl (.cr rfl rfl rfl (.cr rfl rfl rfl .nil)))) (.box (by decide) rfl (blkAs_cells (.sm rfl (.sm rfl .nil))) (.box (by decide) rfl (blkAs_cells (.sm rfl (.sm rfl .nil))) .nil)))) (Z9g h)
 ·refine Sv.skip ?_
  exact Sv.weak (wcn [0,1] rfl (.cf rfl rfl (.cf rfl rfl (.cr rfl rfl rfl (.cr rfl rfl rfl .nil)))) (.box (by decide) rfl (blkAs_cells (.sm rfl (.sm rfl .nil))) (.box (by decide) rfl (blkAs_cells (.sm rfl (.sm rfl .nil))) .nil))) (Z9g h)
noncomputable def Z4o (t_:TJTrail) (ref:Tx):Option (TJTrail×Int) :=
 (Z1t t_ ref).bind fun r_ =>
 if (!decide (r_.2=0)) then
  some ((⟨[],0⟩:TJTrail),r_.2)
 else
  (Zn t_).bind fun r_1 =>
  (Z2j ref [35]).bind fun r_3 =>
  if (!r_3) then
   Z1v t_ r_ r_1 true
  else
   (Z1u r_.1).bind fun r_4 =>
   (Zn t_).bind fun r_5 =>
   (Z1u r_5.Url).bind fun r_6 =>
   Z1v t_ r_ r_1 (!decide (r_4=r_6))
theorem Zeb {mL:Int}{t_:TJTrail}{ref:Tx}{r:(TJTrail×Int)}(h:Z4o t_ ref=some r):CPure Tryz.prog (GG mL) 5 [(.agg (e_TJTrail t_)),(S ref)] (.tup [(.agg (e_TJTrail r.1)),(I r.2)]):=by
 refine acalls_of_sv hmix c5 (R:=Z4n r) ?_
 unfold Z4o at h
 refine ssr<|un<|a2v (v:=(.c (.ref 0 2 0 0))) (h' := upd _ 0 (some (.cells 2 [(e_TJTrail t_)]))) (n' := 1) rfl rfl hcs<|un<|a2v (v:=(.c (.ref 1 2 0 0))) (h' := upd _ 1 (some (.cells 2 [[.ro true 3 [],cI 0]]))) (n' := 2) rfl rfl hcs<|un1 rfl<|dnil<|ssr<|un1 (v:=(.agg (e_TJTrail t_))) rfl<|un1 rfl ?_
 obtain ⟨r_,hr1,h⟩:=bnd h
 refine un<|ac_pure (Z9b hr1) rfl rfl rfl<|un1 rfl<|un1 (v:=(S r_.1)) rfl<|un1 (v:=(I r_.2)) rfl<|un1 rfl<|un1 rfl<|dnil<|Sv.seq<|ssr<|un1 rfl<|un1 (v:=(B (!decide (r_.2=0)))) rfl<|dnil ?_
 refine Sv.cnd rfl h (fun h=>?_) fun h=>?_
 ·refine ssr<|un1 (v:=(.agg [.ro true 3 [],cI 0])) rfl<|un1 rfl<|un<|a2n (h' := upd _ 1 (some (.cells 2 [[.ro true 3 [],cI 0]]))) (n' := 2) rfl rfl hcs<|un1 rfl<|dnil<|Sv.ret ?_
  replace h:=Option.some.inj h
  subst h
  exact ⟨_,.refl _,_,rfl,⟨upd e0 0 (some (.tup [(.agg [.ro false 3 (([]:List TJEntry).map e_TJEntry),cI 0]),(I r_.2)])),e0,0⟩,(.tup [(.agg [.ro false 3 (([]:List TJEntry).map e_TJEntry),cI 0]),(I r_.2)]),weak_canon [] rfl ndl nll nlz (.cons rfl (avAs_tup (.cons (avAs_agg (.cons .nil (.sm rfl .nil))) (.cons (avAs_free rfl) .nil))) .nil) .nil,rfl,rfl,rfl,rfl⟩
 ·refine Sv.skip<|ssr<|un1 (v:=(.agg (e_TJTrail t_))) rfl ?_
  obtain ⟨r_1,hr2,h⟩:=bnd h
  refine un<|ac_pure (Z1c hr2) rfl rfl rfl<|un1 (v:=(I r_1.Doc)) rfl<|un1 rfl<|dnil<|Sv.seq<|Sv.seq<|Sv.drawn<|un1 rfl ?_
  obtain ⟨r_3,hr4,h⟩:=bnd h
  refine un<|ac_pure (Z4m hr4) rfl rfl rfl<|un1 (v:=(B (!r_3))) rfl<|un1 rfl ?_
  refine spl h (fun h=>?_) fun h=>?_
  ·repeat (first | refine gu rfl ?_ | refine gs rfl rfl ?_)
   refine un1 (v:=(B true)) rfl<|dnil ?_
   exact Sv.weak (wcn [0,1] rfl (.cf rfl rfl (.cf rfl rfl (.cf rfl rfl (.cr rfl rfl rfl (.cr rfl rfl rfl .nil))))) (.box (by decide) rfl (blkAs_cells (.sm rfl (.sm rfl .nil))) (.box (by decide) rfl (blkAs_cells (.sm rfl (.sm rfl .nil))) .nil))) (Z9i h)
  ·refine gt rfl<|a1 rfl<|gt rfl<|a1 (v:=(.agg (e_TJTrail t_))) rfl ?_
   obtain ⟨r_4,hr5,h⟩:=bnd h
   refine gt rfl<|ac_pure (Z9c hr5) rfl rfl rfl ?_
   obtain ⟨r_5,hr6,h⟩:=bnd h
   refine gt rfl<|ac_pure (Z1c hr6) rfl rfl rfl<|gt rfl<|a1 (v:=(S r_5.Url)) rfl ?_
   obtain ⟨r_6,hr7,h⟩:=bnd h
   refine gt rfl<|ac_pure (Z9c hr7) rfl rfl rfl<|gt rfl<|a1 (v:=(B (!decide (r_4=r_6)))) rfl<|un1 (v:=(B (!decide (r_4=r_6)))) rfl<|dnil ?_
   exact Sv.weak (wcn [0,1] rfl (.cf rfl rfl (.cf rfl rfl (.cf rfl rfl (.cr rfl rfl rfl (.cr rfl rfl rfl .nil))))) (.box (by decide) rfl (blkAs_cells (.sm rfl (.sm rfl .nil))) (.box (by decide) rfl (blkAs_cells (.sm rfl (.sm rfl .nil))) .nil))) (Z9i h)
def a21:AFunc:=⟨3,[(.cell true 3 6),(.tmp 7)],(sr [(oP 3 (.box (.tmp 0))),(oP 6 (.box (.const (.agg [(.str []),(.str []),(.val (.int .i64 0))])))),(oP 7 (.mov (kI 0)))]
 (sr [(oP 11 (.load true 2 (.tmp 3))),(mV 12 1),(oP 13 (.call 16 [(.tmp 11),(.tmp 12)])),(mV 10 13),(oP 14 (.ext (.tmp 10) 0)),(oP 15 (.ext (.tmp 10) 1)),(mV 8 14),(mV 9 15)]
 (.seq (.block 0 (sr [(mV 17 9),(oP 18 (.bin .neq (.tmp 17) (kI 0))),(mV 16 18)]
 (.cond (.tmp 16) (sr [(oP 19 (.build [(.str []),(.str []),(.val (.int .i64 0))] [])),(mV 20 9),(oN (.store 3 (.tmp 6) (.tmp 19))),(mV 7 20)]
 .ret) (sr [(mV 22 2),(oP 23 (.lenS (.tmp 22))),(oP 24 (.bin .gtr (.tmp 23) (kI 2000))),(mV 21 24)]
 (.cond (.tmp 21) (sr [(oP 25 (.build [(.str []),(.str []),(.val (.int .i64 0))] [])),(oN (.store 3 (.tmp 6) (.tmp 25))),(oP 7 (.mov (kI 2)))]
 .ret) (.seq (.drawn (.fin [((mV 27 8),(0,0)),((oP 29 (.load true 2 (.tmp 3))),(0,2)),((oP 28 (.call 45 [(.tmp 27)])),(1,1)),((oP 30 (.call 17 [(.tmp 29)])),(2,3)),((oP 31 (.fld false 0 1 (.tmp 30))),(0,4)),((oP 32 (.call 45 [(.tmp 31)])),(2,5)),((oP 33 (.bin .neq (.tmp 28) (.tmp 32))),(0,6)),((mV 26 33),(0,7))]))
 (.cond (.tmp 26) (sr [(oP 34 (.build [(.str []),(.str []),(.val (.int .i64 0))] [])),(oN (.store 3 (.tmp 6) (.tmp 34))),(oP 7 (.mov (kI 12)))]
 .ret) .skip)))))))
 (sr [(mV 35 8),(mV 36 2),(oP 37 (.load true 2 (.tmp 3))),(oP 38 (.call 17 [(.tmp 37)])),(oP 39 (.fld false 2 1 (.tmp 38))),(oP 40 (.build [(.str []),(.str []),(.val (.int .i64 0))] [(0,(1,(.tmp 35))),(1,(1,(.tmp 36))),(2,(1,(.tmp 39)))])),(oN (.store 3 (.tmp 6) (.tmp 40))),(oP 7 (.mov (kI 0)))]
 .ret))))⟩
theorem c21:compFunc Tryz.prog 21=some a21:=by kernel_rfl
def Zec (r:(TJEntry×Int)):AV→Heap→Nat→Prop:=fun v h' n' => v=(.tup [(.agg (e_TJEntry r.1)),(I r.2)])∧(h' = e0)∧n' = 0
noncomputable def Z3a (t_:TJTrail) (ref:Tx) (state:Tx):Option (TJEntry×Int) :=
 (Z1t t_ ref).bind fun r_ =>
 if (!decide (r_.2=0)) then
  some ((⟨[],[],0⟩:TJEntry),r_.2)
 else
  if decide (2000<(state.length:Int)) then
   some ((⟨[],[],0⟩:TJEntry),2)
  else
   (Z1s r_.1).bind fun r_1 =>
   (Zn t_).bind fun r_2 =>
   (Z1s r_2.Url).bind fun r_3 =>
   if (!decide (r_1=r_3)) then
    some ((⟨[],[],0⟩:TJEntry),12)
   else
    (Zn t_).bind fun r_4 =>
    some ((⟨r_.1,state,r_4.Doc⟩:TJEntry),0)
theorem Z9j {mL:Int}{t_:TJTrail}{ref:Tx}{state:Tx}{r:(TJEntry×Int)}(h:Z3a t_ ref state=some r):CPure Tryz.prog (GG mL) 21 [(.agg (e_TJTrail t_)),(S ref),(S state)] (.tup [(.agg (e_TJEntry r.1)),(I r.2)]):=by
 refine acalls_of_sv hmix c21 (R:=Zec r) ?_
 unfold Z3a at h
 refine ssr<|un<|a2v (v:=(.c (.ref 0 2 0 0))) (h' := upd _ 0 (some (.cells 2 [(e_TJTrail t_)]))) (n' := 1) rfl rfl hcs<|un<|a2v (v:=(.c (.ref 1 3 0 0))) (h' := upd _ 1 (some (.cells 3 [[.str [],.str [],cI 0]]))) (n' := 2) rfl rfl hcs<|un1 rfl<|dnil<|ssr<|un1 (v:=(.agg (e_TJTrail t_))) rfl<|un1 rfl ?_
 obtain ⟨r_,hr1,h⟩:=bnd h
 refine un<|ac_pure (Z9b hr1) rfl rfl rfl<|un1 rfl<|un1 (v:=(S r_.1)) rfl<|un1 (v:=(I r_.2)) rfl<|un1 rfl<|un1 rfl<|dnil<|Sv.seq<|Sv.block<|ssr<|un1 rfl<|un1 (v:=(B (!decide (r_.2=0)))) rfl<|un1 rfl<|dnil ?_
 refine Sv.cnd rfl h (fun h=>?_) fun h=>?_
 ·refine ssr<|un1 (v:=(.agg [.str [],.str [],cI 0])) rfl<|un1 rfl<|un<|a2n (h' := upd _ 1 (some (.cells 3 [[.str [],.str [],cI 0]]))) (n' := 2) rfl rfl hcs<|un1 rfl<|dnil<|Sv.ret ?_
  exact rt0 h rfl rfl ⟨rfl,rfl,rfl⟩
 ·refine ssr<|un1 rfl<|un1 (v:=(I (state.length:Int))) rfl<|un1 (v:=(B (decide (2000<(state.length:Int))))) rfl<|un1 rfl<|dnil ?_
  refine Sv.cnd rfl h (fun h=>?_) fun h=>?_
  ·refine ssr<|un1 (v:=(.agg [.str [],.str [],cI 0])) rfl<|un<|a2n (h' := upd _ 1 (some (.cells 3 [[.str [],.str [],cI 0]]))) (n' := 2) rfl rfl hcs<|un1 rfl<|dnil<|Sv.ret ?_
   exact rt0 h rfl rfl ⟨rfl,rfl,rfl⟩
  ·refine Sv.seq<|Sv.drawn<|un1 rfl<|un1 (v:=(.agg (e_TJTrail t_))) rfl ?_
   obtain ⟨r_1,hr2,h⟩:=bnd h
   refine un<|ac_pure (Z5r hr2) rfl rfl rfl ?_
   obtain ⟨r_2,hr3,h⟩:=bnd h
   refine un<|ac_pure (Z1c hr3) rfl rfl rfl<|un1 (v:=(S r_2.Url)) rfl ?_
   obtain ⟨r_3,hr4,h⟩:=bnd h
   refine un<|ac_pure (Z5r hr4) rfl rfl rfl<|un1 (v:=(B (!decide (r_1=r_3)))) rfl<|un1 rfl<|dnil ?_
   refine Sv.cnd rfl h (fun h=>?_) fun h=>?_
   ·refine ssr<|un1 (v:=(.agg [.str [],.str [],cI 0])) rfl<|un<|a2n (h' := upd _ 1 (some (.cells 3 [[.str [],.str [],cI 0]]))) (n' := 2) rfl rfl hcs<|un1 rfl<|dnil<|Sv.ret ?_
    exact rt0 h rfl rfl ⟨rfl,rfl,rfl⟩
   ·refine Sv.skip<|ssr<|un1 rfl<|un1 rfl<|un1 (v:=(.agg (e_TJTrail t_))) rfl ?_
    obtain ⟨r_4,hr5,h⟩:=bnd h
    refine un<|ac_pure (Z1c hr5) rfl rfl rfl<|un1 (v:=(I r_4.Doc)) rfl<|un1 (v:=(.agg [.str r_.1,.str state,cI r_4.Doc])) rfl<|un<|a2n (h' := upd _ 1 (some (.cells 3 [[.str r_.1,.str state,cI r_4.Doc]]))) (n' := 2) rfl rfl hcs<|un1 rfl<|dnil<|Sv.ret ?_
    exact rt0 h rfl rfl ⟨rfl,rfl,rfl⟩
def a6:AFunc:=⟨3,[(.cell true 2 6),(.tmp 7)],(sr [(oP 3 (.box (.tmp 0))),(oP 6 (.box (.const (.agg [(.ro true 3 []),(.val (.int .i64 0))])))),(oP 7 (.mov (kI 0)))]
 (sr [(oP 11 (.load true 2 (.tmp 3))),(mV 12 1),(mV 13 2),(oP 14 (.call 21 [(.tmp 11),(.tmp 12),(.tmp 13)])),(mV 10 14),(oP 15 (.ext (.tmp 10) 0)),(oP 16 (.ext (.tmp 10) 1)),(oP 8 (.box (.const (.agg [(.str []),(.str []),(.val (.int .i64 0))])))),(oN (.store 3 (.tmp 8) (.tmp 15))),(mV 9 16)]
 (.seq (sr [(mV 17 9),(oP 18 (.bin .neq (.tmp 17) (kI 0)))]
 (.cond (.tmp 18) (sr [(oP 19 (.build [(.ro true 3 []),(.val (.int .i64 0))] [])),(mV 20 9),(oN (.store 2 (.tmp 6) (.tmp 19))),(mV 7 20)]
 .ret) .skip))
 (sr [(oP 21 (.load true 2 (.tmp 3))),(oP 22 (.load true 3 (.tmp 8))),(oP 23 (.call 20 [(.tmp 21),(.tmp 22)])),(oN (.store 2 (.tmp 6) (.tmp 23))),(oP 7 (.mov (kI 0)))]
 .ret))))⟩
theorem c6:compFunc Tryz.prog 6=some a6:=by kernel_rfl
def Zed (r:(TJTrail×Int)):AV→Heap→Nat→Prop:=fun v h' n' => v=(.tup [(.agg (e_TJTrail r.1)),(I r.2)])∧(h' = e0)∧n' = 0
noncomputable def Z4p (t_:TJTrail) (ref:Tx) (state:Tx):Option (TJTrail×Int) :=
 (Z3a t_ ref state).bind fun r_ =>
 if (!decide (r_.2=0)) then
  some ((⟨[],0⟩:TJTrail),r_.2)
 else
  (Z39 t_ r_.1).bind fun r_1 =>
  some (r_1,0)
theorem Zee {mL:Int}{t_:TJTrail}{ref:Tx}{state:Tx}{r:(TJTrail×Int)}(h:Z4p t_ ref state=some r):CPure Tryz.prog (GG mL) 6 [(.agg (e_TJTrail t_)),(S ref),(S state)] (.tup [(.agg (e_TJTrail r.1)),(I r.2)]):=by
 refine acalls_of_sv hmix c6 (R:=Zed r) ?_
 unfold Z4p at h
 refine ssr<|un<|a2v (v:=(.c (.ref 0 2 0 0))) (h' := upd _ 0 (some (.cells 2 [(e_TJTrail t_)]))) (n' := 1) rfl rfl hcs<|un<|a2v (v:=(.c (.ref 1 2 0 0))) (h' := upd _ 1 (some (.cells 2 [[.ro true 3 [],cI 0]]))) (n' := 2) rfl rfl hcs<|un1 rfl<|dnil<|ssr<|un1 (v:=(.agg (e_TJTrail t_))) rfl<|un1 rfl<|un1 rfl ?_
 obtain ⟨r_,hr1,h⟩:=bnd h
 refine un<|ac_pure (Z9j hr1) rfl rfl rfl<|un1 rfl<|un1 (v:=(.agg (e_TJEntry r_.1))) rfl<|un1 (v:=(I r_.2)) rfl<|un<|a2v (v:=(.c (.ref 2 3 0 0))) (h' := upd _ 2 (some (.cells 3 [[.str [],.str [],cI 0]]))) (n' := 3) rfl rfl hcs<|un<|a2n (h' := upd _ 2 (some (.cells 3 [(e_TJEntry r_.1)]))) (n' := 3) rfl rfl hcs<|un1 rfl<|dnil<|Sv.seq<|ssr<|un1 rfl<|un1 (v:=(B (!decide (r_.2=0)))) rfl<|dnil ?_
 refine Sv.cnd rfl h (fun h=>?_) fun h=>?_
 ·refine ssr<|un1 (v:=(.agg [.ro true 3 [],cI 0])) rfl<|un1 rfl<|un<|a2n (h' := upd _ 1 (some (.cells 2 [[.ro true 3 [],cI 0]]))) (n' := 3) rfl rfl hcs<|un1 rfl<|dnil<|Sv.ret ?_
  replace h:=Option.some.inj h
  subst h
  exact ⟨_,.refl _,_,rfl,⟨upd e0 0 (some (.tup [(.agg [.ro false 3 (([]:List TJEntry).map e_TJEntry),cI 0]),(I r_.2)])),e0,0⟩,(.tup [(.agg [.ro false 3 (([]:List TJEntry).map e_TJEntry),cI 0]),(I r_.2)]),weak_canon [] rfl ndl nll nlz (.cons rfl (avAs_tup (.cons (avAs_agg (.cons .nil (.sm rfl .nil))) (.cons (avAs_free rfl) .nil))) .nil) .nil,rfl,rfl,rfl,rfl⟩
 ·refine Sv.skip<|ssr<|un1 (v:=(.agg (e_TJTrail t_))) rfl<|un1 (v:=(.agg (e_TJEntry r_.1))) rfl ?_
  obtain ⟨r_1,hr2,h⟩:=bnd h
  refine un<|ac_pure (Z9f hr2) rfl rfl rfl<|un<|a2n (h' := upd _ 1 (some (.cells 2 [(e_TJTrail r_1)]))) (n' := 3) rfl rfl hcs<|un1 rfl<|dnil<|Sv.ret ?_
  exact rt0 h rfl rfl ⟨rfl,rfl,rfl⟩
def a7:AFunc:=⟨3,[(.cell true 2 6),(.tmp 7)],(sr [(oP 3 (.box (.tmp 0))),(oP 6 (.box (.const (.agg [(.ro true 3 []),(.val (.int .i64 0))])))),(oP 7 (.mov (kI 0)))]
 (sr [(oP 12 (.load true 2 (.tmp 3))),(mV 13 1),(mV 14 2),(oP 15 (.call 21 [(.tmp 12),(.tmp 13),(.tmp 14)])),(mV 11 15),(oP 16 (.ext (.tmp 11) 0)),(oP 17 (.ext (.tmp 11) 1)),(oP 8 (.box (.const (.agg [(.str []),(.str []),(.val (.int .i64 0))])))),(oN (.store 3 (.tmp 8) (.tmp 16))),(mV 9 17)]
 (.seq (sr [(mV 18 9),(oP 19 (.bin .neq (.tmp 18) (kI 0)))]
 (.cond (.tmp 19) (sr [(oP 20 (.build [(.ro true 3 []),(.val (.int .i64 0))] [])),(mV 21 9),(oN (.store 2 (.tmp 6) (.tmp 20))),(mV 7 21)]
 .ret) .skip))
 (sr [(oP 22 (.faddr 0 (.tmp 3))),(oP 23 (.load false 1 (.tmp 22))),(oP 24 (.call 22 [(.tmp 23)])),(mV 10 24)]
 (sr [(mV 25 10),(oP 26 (.faddr 1 (.tmp 3))),(oP 27 (.load false 1 (.tmp 26))),(oP 28 (.load true 3 (.tmp 8))),(oP 29 (.iaddr 3 (.tmp 25) (.tmp 27))),(oN (.store 3 (.tmp 29) (.tmp 28)))]
 (sr [(mV 30 10),(oP 31 (.faddr 1 (.tmp 3))),(oP 32 (.load false 1 (.tmp 31))),(oP 33 (.build [(.ro true 3 []),(.val (.int .i64 0))] [(0,(1,(.tmp 30))),(1,(1,(.tmp 32)))])),(oN (.store 2 (.tmp 6) (.tmp 33))),(oP 7 (.mov (kI 0)))]
 .ret))))))⟩
theorem c7:compFunc Tryz.prog 7=some a7:=by kernel_rfl
def Zef (r:(TJTrail×Int)):AV→Heap→Nat→Prop:=fun v h' n' => v=(.tup [(.agg (e_TJTrail r.1)),(I r.2)])∧(h' = e0)∧n' = 0
noncomputable def Z4q (t_:TJTrail) (ref:Tx) (state:Tx):Option (TJTrail×Int) :=
 (Z3a t_ ref state).bind fun r_ =>
 if (!decide (r_.2=0)) then
  some ((⟨[],0⟩:TJTrail),r_.2)
 else
  (Z1d t_.Entries).bind fun r_1 =>
  (at? r_1 t_.At).bind fun x_ =>
  some ((⟨(r_1.set t_.At.toNat r_.1),t_.At⟩:TJTrail),0)
theorem Zeg {mL:Int}{t_:TJTrail}{ref:Tx}{state:Tx}{r:(TJTrail×Int)}(h:Z4q t_ ref state=some r):CPure Tryz.prog (GG mL) 7 [(.agg (e_TJTrail t_)),(S ref),(S state)] (.tup [(.agg (e_TJTrail r.1)),(I r.2)]):=by
 refine acalls_of_sv hmix c7 (R:=Zef r) ?_
 unfold Z4q at h
 refine ssr<|un<|a2v (v:=(.c (.ref 0 2 0 0))) (h' := upd _ 0 (some (.cells 2 [(e_TJTrail t_)]))) (n' := 1) rfl rfl hcs<|un<|a2v (v:=(.c (.ref 1 2 0 0))) (h' := upd _ 1 (some (.cells 2 [[.ro true 3 [],cI 0]]))) (n' := 2) rfl rfl hcs<|un1 rfl<|dnil<|ssr<|un1 (v:=(.agg (e_TJTrail t_))) rfl<|un1 rfl<|un1 rfl ?_
 obtain ⟨r_,hr1,h⟩:=bnd h
 refine un<|ac_pure (Z9j hr1) rfl rfl rfl<|un1 rfl<|un1 (v:=(.agg (e_TJEntry r_.1))) rfl<|un1 (v:=(I r_.2)) rfl<|un<|a2v (v:=(.c (.ref 2 3 0 0))) (h' := upd _ 2 (some (.cells 3 [[.str [],.str [],cI 0]]))) (n' := 3) rfl rfl hcs<|un<|a2n (h' := upd _ 2 (some (.cells 3 [(e_TJEntry r_.1)]))) (n' := 3) rfl rfl hcs<|un1 rfl<|dnil<|Sv.seq<|ssr<|un1 rfl<|un1 (v:=(B (!decide (r_.2=0)))) rfl<|dnil ?_
 refine Sv.cnd rfl h (fun h=>?_) fun h=>?_
 ·refine ssr<|un1 (v:=(.agg [.ro true 3 [],cI 0])) rfl<|un1 rfl<|un<|a2n (h' := upd _ 1 (some (.cells 2 [[.ro true 3 [],cI 0]]))) (n' := 3) rfl rfl hcs<|un1 rfl<|dnil<|Sv.ret ?_
  replace h:=Option.some.inj h
  subst h
  exact ⟨_,.refl _,_,rfl,⟨upd e0 0 (some (.tup [(.agg [.ro false 3 (([]:List TJEntry).map e_TJEntry),cI 0]),(I r_.2)])),e0,0⟩,(.tup [(.agg [.ro false 3 (([]:List TJEntry).map e_TJEntry),cI 0]),(I r_.2)]),weak_canon [] rfl ndl nll nlz (.cons rfl (avAs_tup (.cons (avAs_agg (.cons .nil (.sm rfl .nil))) (.cons (avAs_free rfl) .nil))) .nil) .nil,rfl,rfl,rfl,rfl⟩
 ·refine Sv.skip<|ssr<|un1 (v:=(.c (.ref 0 2 0 0))) rfl<|un1 (v:=(.c (.ro false 3 (t_.Entries.map e_TJEntry)))) rfl ?_
  obtain ⟨r_1,hr2,h⟩:=bnd h
  refine un<|ac_gen (bs:=[]) («as»:=[(.c (.ro false 3 (t_.Entries.map e_TJEntry)))]) (h2:=_) (h1:=e0) (Z2k hr2) rfl (.cons (avAs_free rfl) .nil) (hsub_refl _) (.nil _) (fun _=>rfl) (by decide) (by decide) (.cons (avAs_free rfl) .nil) .nil ?_
  rintro _ _ _ hn ⟨z_,hz_,rfl,rfl,rfl⟩
  refine ⟨.inl rfl,(upd (rem [] _) 3 (lstB z_ 3 (r_1.map e_TJEntry))),fun hbd=>(m3_cons (m3_row rfl (fr_map fun _=>rfl)) (m3_rem (in_nil _) (.cons (by decide) .nil) hbd)),(lstV z_ 3 3 r_1.length),4,(by cases z_ <;> rfl),rfl,?_⟩
  refine un1 rfl<|dnil<|ssr<|un1 rfl<|un1 (v:=(.c (.ref 0 2 0 1))) rfl<|un1 (v:=(I t_.At)) rfl<|un1 (v:=(.agg (e_TJEntry r_.1))) rfl ?_
  obtain ⟨x_,hx1,h⟩:=bnd h
  refine un1 (v:=(.c (.ref 3 3 t_.At.toNat 0))) (s_iaddrL rfl rfl hz_ hx1)<|un<|a2n (h' := upd _ 3 (lstB z_ 3 ((r_1.set t_.At.toNat r_.1).map e_TJEntry))) (n' := 4) rfl (s_storeL (e:=e_TJEntry) (q' := r_.1) rfl rfl hz_ hx1 rfl rfl rfl (Nat.le_of_ble_eq_true rfl) rfl) hcs ?_
  try rw [len_set r_1 t_.At.toNat r_.1]
  refine dnil<|ssr<|un1 rfl<|un1 (v:=(.c (.ref 0 2 0 1))) rfl<|un1 (v:=(I t_.At)) rfl<|un1 (v:=(.agg [lstC z_ 3 3 (r_1.set t_.At.toNat r_.1).length,cI t_.At])) rfl<|un<|a2n (h' := upd _ 1 (some (.cells 2 [[lstC z_ 3 3 (r_1.set t_.At.toNat r_.1).length,cI t_.At]]))) (n' := 4) rfl rfl hcs<|un1 rfl<|dnil<|Sv.ret ?_
  replace h:=Option.some.inj h
  subst h
  exact ⟨_,.refl _,_,rfl,⟨upd e0 0 (some (.tup [(.agg [.ro false 3 ((r_1.set t_.At.toNat r_.1).map e_TJEntry),cI t_.At]),(I 0)])),e0,0⟩,(.tup [(.agg [.ro false 3 ((r_1.set t_.At.toNat r_.1).map e_TJEntry),cI t_.At]),(I 0)]),weak_canon [] rfl ndl nll nlz (.cons rfl (avAs_tup (.cons (avAs_agg (.cons (lstC_ro (es:=List.map e_TJEntry (r_1.set t_.At.toNat r_.1)) rfl (List.length_map e_TJEntry).symm (map_nil_of (hz_len hz_ (len_set r_1 t_.At.toNat r_.1))) (fun b x hx=>not_in (bs:=[]) rfl b (((.nil):HLt _ _) b x hx)) (fr_map fun _=>rfl)) (.sm rfl .nil))) (.cons (avAs_free rfl) .nil))) .nil) .nil,rfl,rfl,rfl,rfl⟩
def a8:AFunc:=⟨2,[(.cell true 2 4),(.tmp 5),(.tmp 6)],(sr [(oP 2 (.box (.tmp 0))),(oP 4 (.box (.const (.agg [(.ro true 3 []),(.val (.int .i64 0))])))),(oP 5 (.mov kF)),(oP 6 (.mov (kI 0)))]
 (.seq (sr [(oP 9 (.load true 2 (.tmp 2))),(oP 10 (.call 10 [(.tmp 9)])),(mV 7 10)]
 (sr [(mV 11 7),(oP 12 (.bin .neq (.tmp 11) (kI 0)))]
 (.cond (.tmp 12) (sr [(oP 13 (.build [(.ro true 3 []),(.val (.int .i64 0))] [])),(mV 14 7),(oN (.store 2 (.tmp 4) (.tmp 13))),(oP 5 (.mov kF)),(mV 6 14)]
 .ret) .skip)))
 (.seq (sr [(mV 15 1),(oP 16 (.faddr 1 (.tmp 2))),(oP 17 (.load false 1 (.tmp 16))),(oP 18 (.un .neg (.tmp 17))),(oP 19 (.bin .lss (.tmp 15) (.tmp 18))),(mV 20 19),⟨(some 21),(.mov (.tmp 1)),(some (20,false))⟩,⟨(some 22),(.faddr 0 (.tmp 2)),(some (20,false))⟩,⟨(some 23),(.load false 1 (.tmp 22)),(some (20,false))⟩,⟨(some 24),(.len (.tmp 23)),(some (20,false))⟩,⟨(some 25),(.faddr 1 (.tmp 2)),(some (20,false))⟩,⟨(some 26),(.load false 1 (.tmp 25)),(some (20,false))⟩,⟨(some 27),(.bin .sub (.tmp 24) (.tmp 26)),(some (20,false))⟩,⟨(some 28),(.bin .geq (.tmp 21) (.tmp 27)),(some (20,false))⟩,(oP 29 (.pick (.tmp 20) kT (.tmp 28)))]
 (.cond (.tmp 29) (sr [(oP 30 (.build [(.ro true 3 []),(.val (.int .i64 0))] [])),(oN (.store 2 (.tmp 4) (.tmp 30))),(oP 5 (.mov kF)),(oP 6 (.mov (kI 5)))]
 .ret) .skip))
 (.seq (.drawn (.alt [((oP 31 (.faddr 0 (.tmp 2))),(0,0)),((oP 32 (.load false 1 (.tmp 31))),(0,1)),((oP 34 (.faddr 1 (.tmp 2))),(0,3)),((oP 35 (.load false 1 (.tmp 34))),(0,4)),((mV 36 1),(0,5)),((oP 37 (.bin .add (.tmp 35) (.tmp 36))),(0,6))] (.fin [((oP 33 (.call 22 [(.tmp 32)])),(1,2)),((oP 38 (.build [(.ro true 3 []),(.val (.int .i64 0))] [(0,(1,(.tmp 33))),(1,(1,(.tmp 37)))])),(0,7)),((oP 8 (.box (.const (.agg [(.ro true 3 []),(.val (.int .i64 0))])))),(1,8)),((oN (.store 2 (.tmp 8) (.tmp 38))),(2,9))]) (.fin [((oP 8 (.box (.const (.agg [(.ro true 3 []),(.val (.int .i64 0))])))),(1,8)),((oP 33 (.call 22 [(.tmp 32)])),(1,2)),((oP 38 (.build [(.ro true 3 []),(.val (.int .i64 0))] [(0,(1,(.tmp 33))),(1,(1,(.tmp 37)))])),(0,7)),((oN (.store 2 (.tmp 8) (.tmp 38))),(2,9))])))
 (.seq (.drawn (.fin [((oP 39 (.load true 2 (.tmp 8))),(0,0)),((oP 40 (.load true 2 (.tmp 8))),(0,1)),((oP 43 (.load true 2 (.tmp 2))),(0,4)),((oP 41 (.call 17 [(.tmp 40)])),(1,2)),((oP 42 (.fld false 2 1 (.tmp 41))),(0,3)),((oP 44 (.call 17 [(.tmp 43)])),(1,5)),((oP 45 (.fld false 2 1 (.tmp 44))),(0,6)),((oP 46 (.bin .neq (.tmp 42) (.tmp 45))),(0,7)),((oN (.store 2 (.tmp 4) (.tmp 39))),(2,8)),((mV 5 46),(0,9)),((oP 6 (.mov (kI 0))),(0,10))]))
 .ret)))))⟩
theorem c8:compFunc Tryz.prog 8=some a8:=by kernel_rfl
def Zeh (r:(TJTrail×Bool×Int)):AV→Heap→Nat→Prop:=fun v h' n' => v=(.tup [(.agg (e_TJTrail r.1)),(B r.2.1),(I r.2.2)])∧(h' = e0)∧n' = 0
noncomputable def Z4r (t_:TJTrail) (n_:Int):Option (TJTrail×Bool×Int) :=
 (Z2i t_).bind fun r_ =>
 if (!decide (r_=0)) then
  some ((⟨[],0⟩:TJTrail),false,r_)
 else
  if ((decide (n_<(wi (0 - t_.At))))||(decide ((wi ((t_.Entries.length:Int) - t_.At))≤n_))) then
   some ((⟨[],0⟩:TJTrail),false,5)
  else
   (Z1d t_.Entries).bind fun r_1 =>
   (Zn (⟨r_1,(wi (t_.At+n_))⟩:TJTrail)).bind fun r_2 =>
   (Zn t_).bind fun r_3 =>
   some ((⟨r_1,(wi (t_.At+n_))⟩:TJTrail),(!decide (r_2.Doc=r_3.Doc)),0)
theorem Zei {mL:Int}{t_:TJTrail}{n_:Int}{r:(TJTrail×Bool×Int)}(h:Z4r t_ n_=some r):CPure Tryz.prog (GG mL) 8 [(.agg (e_TJTrail t_)),(I n_)] (.tup [(.agg (e_TJTrail r.1)),(B r.2.1),(I r.2.2)]):=by
 refine acalls_of_sv hmix c8 (R:=Zeh r) ?_
 unfold Z4r at h
 refine ssr<|un<|a2v (v:=(.c (.ref 0 2 0 0))) (h' := upd _ 0 (some (.cells 2 [(e_TJTrail t_)]))) (n' := 1) rfl rfl hcs<|un<|a2v (v:=(.c (.ref 1 2 0 0))) (h' := upd _ 1 (some (.cells 2 [[.ro true 3 [],cI 0]]))) (n' := 2) rfl rfl hcs<|un1 rfl<|un1 rfl<|dnil<|Sv.seq<|ssr<|un1 (v:=(.agg (e_TJTrail t_))) rfl ?_
 obtain ⟨r_,hr1,h⟩:=bnd h
 refine un<|ac_pure (Z6w hr1) rfl rfl rfl<|un1 rfl<|dnil<|ssr<|un1 rfl<|un1 (v:=(B (!decide (r_=0)))) rfl<|dnil ?_
 refine Sv.cnd rfl h (fun h=>?_) fun h=>?_
 ·refine ssr<|un1 (v:=(.agg [.ro true 3 [],cI 0])) rfl<|un1 rfl<|un<|a2n (h' := upd _ 1 (some (.cells 2 [[.ro true 3 [],cI 0]]))) (n' := 2) rfl rfl hcs<|un1 rfl<|un1 rfl<|dnil<|Sv.ret ?_
  replace h:=Option.some.inj h
  subst h
  exact ⟨_,.refl _,_,rfl,⟨upd e0 0 (some (.tup [(.agg [.ro false 3 (([]:List TJEntry).map e_TJEntry),cI 0]),(B false),(I r_)])),e0,0⟩,(.tup [(.agg [.ro false 3 (([]:List TJEntry).map e_TJEntry),cI 0]),(B false),(I r_)]),weak_canon [] rfl ndl nll nlz (.cons rfl (avAs_tup (.cons (avAs_agg (.cons .nil (.sm rfl .nil))) (.cons (avAs_free rfl) (.cons (avAs_free rfl) .nil)))) .nil) .nil,rfl,rfl,rfl,rfl⟩
 ·refine Sv.skip<|Sv.seq<|ssr<|un1 rfl<|un1 (v:=(.c (.ref 0 2 0 1))) rfl<|un1 (v:=(I t_.At)) rfl<|un1 (v:=(I (wi (0 - t_.At)))) rfl<|un1 (v:=(B (decide (n_<(wi (0 - t_.At)))))) rfl<|un1 rfl ?_
  refine gjoin 9 (d:=29) (v:=(B ((decide (n_<(wi (0 - t_.At))))||(decide ((wi ((t_.Entries.length:Int) - t_.At))≤n_))))) (fun X hX=>?_) ?_
  ·refine split2 (fun hc2=>?_) (fun hc2=>?_)
   ·repeat (first | refine gu rfl ?_ | refine gs rfl rfl ?_)
    refine un1 (v:=(B true)) rfl<|dnil ?_
    exact hX _ (.putEq (by rw [hc2]; rfl) (by repeat (first | exact .putEq (by rw [hc2]) (.refl _) | refine .skp ?_ rfl)))
   ·refine gt rfl<|a1 rfl<|gt rfl<|a1 (v:=(.c (.ref 0 2 0 0))) rfl<|gt rfl<|a1 (v:=(.c (.ro false 3 (t_.Entries.map e_TJEntry)))) rfl<|gt rfl<|a1 (v:=(I (t_.Entries.length:Int))) (s_len (e:=e_TJEntry) (xs:=t_.Entries) rfl)<|gt rfl<|a1 (v:=(.c (.ref 0 2 0 1))) rfl<|gt rfl<|a1 (v:=(I t_.At)) rfl<|gt rfl<|a1 (v:=(I (wi ((t_.Entries.length:Int) - t_.At)))) rfl<|gt rfl<|a1 (v:=(B (decide ((wi ((t_.Entries.length:Int) - t_.At))≤n_)))) rfl<|un1 (v:=(B (decide ((wi ((t_.Entries.length:Int) - t_.At))≤n_)))) rfl<|dnil ?_
    exact hX _ (.putEq (by rw [hc2]; rfl) (by repeat (first | exact .putEq (by rw [hc2]) (.refl _) | refine .skp ?_ rfl)))
  refine dnil ?_
  refine Sv.cnd rfl h (fun h=>?_) fun h=>?_
  ·refine ssr<|un1 (v:=(.agg [.ro true 3 [],cI 0])) rfl<|un<|a2n (h' := upd _ 1 (some (.cells 2 [[.ro true 3 [],cI 0]]))) (n' := 2) rfl rfl hcs<|un1 rfl<|un1 rfl<|dnil<|Sv.ret ?_
   replace h:=Option.some.inj h
   subst h
   exact ⟨_,.refl _,_,rfl,⟨upd e0 0 (some (.tup [(.agg [.ro false 3 (([]:List TJEntry).map e_TJEntry),cI 0]),(B false),(I 5)])),e0,0⟩,(.tup [(.agg [.ro false 3 (([]:List TJEntry).map e_TJEntry),cI 0]),(B false),(I 5)]),weak_canon [] rfl ndl nll nlz (.cons rfl (avAs_tup (.cons (avAs_agg (.cons .nil (.sm rfl .nil))) (.cons (avAs_free rfl) (.cons (avAs_free rfl) .nil)))) .nil) .nil,rfl,rfl,rfl,rfl⟩
  ·refine Sv.skip<|Sv.seq<|Sv.drawn2<|un1 (v:=(.c (.ref 0 2 0 0))) rfl<|un1 (v:=(.c (.ro false 3 (t_.Entries.map e_TJEntry)))) rfl<|un1 (v:=(.c (.ref 0 2 0 1))) rfl<|un1 (v:=(I t_.At)) rfl<|un1 rfl<|un1 (v:=(I (wi (t_.At+n_)))) rfl<|dnil ?_
   refine ⟨?_,?_⟩
   ·obtain ⟨r_1,hr2,h⟩:=bnd h
    refine un<|ac_gen (bs:=[]) («as»:=[(.c (.ro false 3 (t_.Entries.map e_TJEntry)))]) (h2:=_) (h1:=e0) (Z2k hr2) rfl (.cons (avAs_free rfl) .nil) (hsub_refl _) (.nil _) (fun _=>rfl) (by decide) (by decide) (.cons (avAs_free rfl) .nil) .nil ?_
    rintro _ _ _ hn ⟨z_,hz_,rfl,rfl,rfl⟩
    refine ⟨.inl rfl,(upd (rem [] _) 2 (lstB z_ 3 (r_1.map e_TJEntry))),fun hbd=>(m3_cons (m3_row rfl (fr_map fun _=>rfl)) (m3_rem (in_nil _) (.cons (by decide) .nil) hbd)),(lstV z_ 2 3 r_1.length),3,(by cases z_ <;> rfl),rfl,?_⟩
    refine un1 (v:=(.agg [lstC z_ 2 3 r_1.length,cI (wi (t_.At+n_))])) rfl<|un<|a2v (v:=(.c (.ref 3 2 0 0))) (h' := upd _ 3 (some (.cells 2 [[.ro true 3 [],cI 0]]))) (n' := 4) rfl rfl (fun _=>rfl)<|un<|a2n (h' := upd _ 3 (some (.cells 2 [[lstC z_ 2 3 r_1.length,cI (wi (t_.At+n_))]]))) (n' := 4) rfl rfl hcs<|dnil<|Sv.seq<|Sv.drawn<|un1 (v:=(.agg [lstC z_ 2 3 r_1.length,cI (wi (t_.At+n_))])) rfl<|un1 (v:=(.agg [lstC z_ 2 3 r_1.length,cI (wi (t_.At+n_))])) rfl<|un1 (v:=(.agg (e_TJTrail t_))) rfl ?_
    obtain ⟨r_2,hr3,h⟩:=bnd h
    refine un<|ac_lend (h2:=(upd _ 2 none)) (Z1c hr3) rfl (.cons (avAs_agg (.cons (lstC_ro (es:=List.map e_TJEntry r_1) rfl (List.length_map e_TJEntry).symm (map_nil_of hz_) (gone rfl) (fr_map fun _=>rfl)) (.sm rfl .nil))) .nil) (hsub_none (hsub_refl _)) rfl rfl (.inr rfl)<|un1 (v:=(I r_2.Doc)) rfl ?_
    obtain ⟨r_3,hr4,h⟩:=bnd h
    refine un<|ac_pure (Z1c hr4) rfl rfl rfl<|un1 (v:=(I r_3.Doc)) rfl<|un1 (v:=(B (!decide (r_2.Doc=r_3.Doc)))) rfl<|un<|a2n (h' := upd _ 1 (some (.cells 2 [[lstC z_ 2 3 r_1.length,cI (wi (t_.At+n_))]]))) (n' := 4) rfl rfl hcs<|un1 rfl<|un1 rfl<|dnil<|Sv.ret ?_
    replace h:=Option.some.inj h
    subst h
    exact ⟨_,.refl _,_,rfl,⟨upd e0 0 (some (.tup [(.agg [.ro false 3 (r_1.map e_TJEntry),cI (wi (t_.At+n_))]),(B (!decide (r_2.Doc=r_3.Doc))),(I 0)])),e0,0⟩,(.tup [(.agg [.ro false 3 (r_1.map e_TJEntry),cI (wi (t_.At+n_))]),(B (!decide (r_2.Doc=r_3.Doc))),(I 0)]),weak_canon [] rfl ndl nll nlz (.cons rfl (avAs_tup (.cons (avAs_agg (.cons (lstC_ro (es:=List.map e_TJEntry r_1) rfl (List.length_map e_TJEntry).symm (map_nil_of hz_) (fun b x hx=>not_in (bs:=[]) rfl b (((.nil):HLt _ _) b x hx)) (fr_map fun _=>rfl)) (.sm rfl .nil))) (.cons (avAs_free rfl) (.cons (avAs_free rfl) .nil)))) .nil) .nil,rfl,rfl,rfl,rfl⟩
   ·refine un<|a2v (v:=(.c (.ref 2 2 0 0))) (h' := upd _ 2 (some (.cells 2 [[.ro true 3 [],cI 0]]))) (n' := 3) rfl rfl (fun _=>rfl) ?_
    obtain ⟨r_1,hr2,h⟩:=bnd h
    refine un<|ac_gen (bs:=[]) («as»:=[(.c (.ro false 3 (t_.Entries.map e_TJEntry)))]) (h2:=_) (h1:=e0) (Z2k hr2) rfl (.cons (avAs_free rfl) .nil) (hsub_refl _) (.nil _) (fun _=>rfl) (by decide) (by decide) (.cons (avAs_free rfl) .nil) .nil ?_
    rintro _ _ _ hn ⟨z_,hz_,rfl,rfl,rfl⟩
    refine ⟨.inl rfl,(upd (rem [] _) 3 (lstB z_ 3 (r_1.map e_TJEntry))),fun hbd=>(m3_cons (m3_row rfl (fr_map fun _=>rfl)) (m3_rem (in_nil _) (.cons (by decide) .nil) hbd)),(lstV z_ 3 3 r_1.length),4,(by cases z_ <;> rfl),rfl,?_⟩
    refine un1 (v:=(.agg [lstC z_ 3 3 r_1.length,cI (wi (t_.At+n_))])) rfl<|un<|a2n (h' := upd _ 2 (some (.cells 2 [[lstC z_ 3 3 r_1.length,cI (wi (t_.At+n_))]]))) (n' := 4) rfl rfl hcs<|dnil<|Sv.seq<|Sv.drawn<|un1 (v:=(.agg [lstC z_ 3 3 r_1.length,cI (wi (t_.At+n_))])) rfl<|un1 (v:=(.agg [lstC z_ 3 3 r_1.length,cI (wi (t_.At+n_))])) rfl<|un1 (v:=(.agg (e_TJTrail t_))) rfl ?_
    obtain ⟨r_2,hr3,h⟩:=bnd h
    refine un<|ac_lend (h2:=(upd _ 3 none)) (Z1c hr3) rfl (.cons (avAs_agg (.cons (lstC_ro (es:=List.map e_TJEntry r_1) rfl (List.length_map e_TJEntry).symm (map_nil_of hz_) (gone rfl) (fr_map fun _=>rfl)) (.sm rfl .nil))) .nil) (hsub_none (hsub_refl _)) rfl rfl (.inr rfl)<|un1 (v:=(I r_2.Doc)) rfl ?_
    obtain ⟨r_3,hr4,h⟩:=bnd h
    refine un<|ac_pure (Z1c hr4) rfl rfl rfl<|un1 (v:=(I r_3.Doc)) rfl<|un1 (v:=(B (!decide (r_2.Doc=r_3.Doc)))) rfl<|un<|a2n (h' := upd _ 1 (some (.cells 2 [[lstC z_ 3 3 r_1.length,cI (wi (t_.At+n_))]]))) (n' := 4) rfl rfl hcs<|un1 rfl<|un1 rfl<|dnil<|Sv.ret ?_
    replace h:=Option.some.inj h
    subst h
    exact ⟨_,.refl _,_,rfl,⟨upd e0 0 (some (.tup [(.agg [.ro false 3 (r_1.map e_TJEntry),cI (wi (t_.At+n_))]),(B (!decide (r_2.Doc=r_3.Doc))),(I 0)])),e0,0⟩,(.tup [(.agg [.ro false 3 (r_1.map e_TJEntry),cI (wi (t_.At+n_))]),(B (!decide (r_2.Doc=r_3.Doc))),(I 0)]),weak_canon [] rfl ndl nll nlz (.cons rfl (avAs_tup (.cons (avAs_agg (.cons (lstC_ro (es:=List.map e_TJEntry r_1) rfl (List.length_map e_TJEntry).symm (map_nil_of hz_) (fun b x hx=>not_in (bs:=[]) rfl b (((.nil):HLt _ _) b x hx)) (fr_map fun _=>rfl)) (.sm rfl .nil))) (.cons (avAs_free rfl) (.cons (avAs_free rfl) .nil)))) .nil) .nil,rfl,rfl,rfl,rfl⟩
noncomputable abbrev Z6x (s_:Tx) (substr_:Tx):Option Int:=index? s_ substr_
theorem Z9k {mL:Int}{s_:Tx}{substr_:Tx}{r:Int}(h:Z6x s_ substr_=some r):CPure Tryz.prog (GG mL) 43 [(S s_),(S substr_)] (I r):=index_ok (m:=mL) Tryz.lays143 rfl h
def a14:AFunc:=⟨3,[(.tmp 6)],(sr [(oP 6 (.mov kF))]
 (sr [(mV 7 1),(mV 8 0),(oP 9 (.bin .leq (.tmp 7) (.tmp 8))),(mV 10 9),⟨(some 11),(.mov (.tmp 0)),(some (10,true))⟩,⟨(some 12),(.mov (.tmp 2)),(some (10,true))⟩,⟨(some 13),(.bin .leq (.tmp 11) (.tmp 12)),(some (10,true))⟩,(oP 14 (.pick (.tmp 10) (.tmp 13) kF)),(mV 6 14)]
 .ret))⟩
theorem c14:compFunc Tryz.prog 14=some a14:=by kernel_rfl
def Zej (r:Bool):AV→Heap→Nat→Prop:=fun v h' n' => v=(B r)∧(h' = e0)∧n' = 0
def Z1 (n_:Int) (low:Int) (high:Int):Bool :=
 ((decide (low≤n_))&&(decide (n_≤high)))
theorem Zo {mL:Int}(n_:Int) (low:Int) (high:Int):CPure Tryz.prog (GG mL) 14 [(I n_),(I low),(I high)] (B (Z1 n_ low high)):=by
 generalize h:Z1 n_ low high=o
 refine acalls_of_sv hmix c14 (R:=Zej o) ?_
 unfold Z1 at h
 refine ssr<|un1 rfl<|dnil<|ssr<|un1 rfl<|un1 rfl<|un1 (v:=(B (decide (low≤n_)))) rfl<|un1 rfl ?_
 refine gjoin 4 (d:=14) (v:=(B ((decide (low≤n_))&&(decide (n_≤high))))) (fun X hX=>?_) ?_
 ·refine split2 (fun hc1=>?_) (fun hc1=>?_)
  ·refine gt rfl<|a1 rfl<|gt rfl<|a1 rfl<|gt rfl<|a1 (v:=(B (decide (n_≤high)))) rfl<|un1 (v:=(B (decide (n_≤high)))) rfl<|dnil ?_
   exact hX _ (.putEq (by rw [hc1]; rfl) (.skp (.skp (.skp (.putEq (by rw [hc1]) (.refl _)) rfl) rfl) rfl))
  ·refine gs rfl rfl<|gs rfl rfl<|gs rfl rfl<|un1 (v:=(B false)) rfl<|dnil ?_
   exact hX _ (.putEq (by rw [hc1]; rfl) (.skp (.skp (.skp (.putEq (by rw [hc1]) (.refl _)) rfl) rfl) rfl))
 refine un1 rfl<|dnil<|Sv.ret ?_
 subst h
 exact ⟨_,.refl _,_,rfl,⟨upd e0 0 (some (B ((decide (low≤n_))&&(decide (n_≤high))))),e0,0⟩,(B ((decide (low≤n_))&&(decide (n_≤high)))),weak_canon [] rfl ndl nll nlz (.cf rfl rfl .nil) .nil,rfl,rfl,rfl,rfl⟩
def a47_c0:ACode:=(.region [(oP 23 (.bin .add (.tmp 10) (kI 1))),(mV 10 23)])
def a47_c1:ACode:=(sr [(oP 11 (.bin .lss (.tmp 10) (.tmp 9)))]
 (.seq (.cond (.tmp 11) .skip (.exit 0))
 (.seq (.block 1 (sr [(mV 12 10),(oP 13 (.iaddr 1 (.tmp 8) (.tmp 10))),(oP 14 (.load false 1 (.tmp 13))),(mV 4 12),(mV 5 14)]
 (sr [(mV 15 5),(oP 16 (.conv .i64 (.tmp 15))),(oP 17 (.call 14 [(.tmp 16),(kI 65),(kI 90)]))]
 (.cond (.tmp 17) (.region [(mV 18 3),(mV 19 4),(mV 20 5),(oP 21 (.bin .add (.tmp 20) (.const (.c (.val (.int .u8 32)))))),(oP 22 (.iaddr 1 (.tmp 18) (.tmp 19))),(oN (.store 1 (.tmp 22) (.tmp 21)))]) .skip))))
 a47_c0)))
def a47:AFunc:=⟨1,[(.tmp 2)],(sr [(oP 2 (.mov (.const (.c (.str [])))))]
 (sr [(mV 6 0),(oP 7 (.toBytes (.tmp 6))),(mV 3 7)]
 (.seq (sr [(mV 8 3),(oP 9 (.len (.tmp 8))),(oP 10 (.mov (kI 0)))]
 (.block 0 (.loop a47_c1)))
 (sr [(mV 24 3),(oP 25 (.ofBytes (.tmp 24))),(mV 2 25)]
 .ret))))⟩
theorem c47:compFunc Tryz.prog 47=some a47:=by kernel_rfl
def Z6y (r:Tx):AV→Heap→Nat→Prop:=fun v h' n' => v=(S r)∧(h' = e0)∧n' = 0
abbrev Z9l (F_:(List Int)→Int→Int→Option Tx) (o:Tx) (R_:St→Prop):Prop:=∀(b_:(List Int)) (v9:Int) (v10:Int) (zb:Bool) (_:zb=true→b_=[]),F_ b_ v9 v10=some o→∀ s,Weak 0 s ⟨(ue [(10,(I v10)),(9,(I v9)),(8,(lstV zb 0 1 b_.length)),(3,(lstV zb 0 1 b_.length))]),(upd e0 0 (lstB zb 1 (b_.map (eK .u8)))),1⟩→R_ s
abbrev Z9m (F_:(List Int)→Option Tx) (o:Tx) (R_:St→Prop):Prop:=∀(b_1:(List Int)) (zb_1:Bool) (_:zb_1=true→b_1=[]),F_ b_1=some o→∀ s,Weak 0 s ⟨(upd e0 3 (some (lstV zb_1 0 1 b_1.length))),(upd e0 0 (lstB zb_1 1 (b_1.map (eK .u8)))),1⟩→R_ s
noncomputable def Z4s (v9:Int) (v10:Int) (self:(List Int)→Int→Int→Option Tx) (K0_:(List Int)→Option Tx) (b_2:(List Int)):Option Tx :=
 self b_2 v9 (wi (v10+1))
theorem Z9n {mL:Int}{Q:AExit→St→Prop}{v9:Int}{v10:Int}{self:(List Int)→Int→Int→Option Tx}{K0_:(List Int)→Option Tx}{b_2:(List Int)}{zb_2:Bool}(hzb_2:zb_2=true→b_2=[]) {o:Tx}(h:Z4s v9 v10 self K0_ b_2=some o)
  (hself:Z9l self o (Q .normal))
  (hK0:Z9m K0_ o (Q (.exit 0)))
  (hr:∀ s,Ends a47.results 0 (Z6y o) .ret s→Q .ret s) :
  Sv Tryz.prog (GG mL) 0 a47_c0 Q ⟨(ue [(10,(I v10)),(9,(I v9)),(8,(lstV zb_2 0 1 b_2.length)),(3,(lstV zb_2 0 1 b_2.length))]),(upd e0 0 (lstB zb_2 1 (b_2.map (eK .u8)))),1⟩:=by
 unfold Z4s at h
 refine srg<|un1 (v:=(I (wi (v10+1)))) rfl<|un1 rfl<|dnil ?_
 exact hself b_2 v9 (wi (v10+1)) zb_2 hzb_2 h _ (wcn [0] rfl (.cf rfl rfl (.cf rfl rfl (.cons rfl (.c (lsr rfl rfl)) (.cons rfl (.c (lsr rfl rfl)) .nil)))) (.row (by decide) rfl (fr_map fun _=>rfl) .nil))
abbrev Z9o (F_:Nat→(List Int)→Int→Int→Option Tx) (o:Tx):Nat→St→Prop:=fun k s=>∃(b_:(List Int)),∃(v9:Int),∃(v10:Int),∃(zb:Bool),(zb=true→b_=[])∧F_ k b_ v9 v10=some o∧s=⟨(ue [(10,(I v10)),(9,(I v9)),(8,(lstV zb 0 1 b_.length)),(3,(lstV zb 0 1 b_.length))]),(upd e0 0 (lstB zb 1 (b_.map (eK .u8)))),1⟩
noncomputable def Z12 (K0_:(List Int)→Option Tx):Nat→(List Int)→Int→Int→Option Tx
 | 0,_,_,_=>none
 | k+1,b_,v9,v10 =>
  if decide (v10<v9) then
   (at? b_ v10).bind fun x_ =>
   if (Z1 (wr .i64 x_) 65 90) then
    (at? b_ v10).bind fun x_1 =>
    Z4s v9 v10 (Z12 K0_ k) K0_ (b_.set v10.toNat (wr .u8 (x_+32)))
   else
    Z4s v9 v10 (Z12 K0_ k) K0_ b_
  else
   K0_ b_
theorem Zek {mL:Int}{Q:AExit→St→Prop}{K0_:(List Int)→Option Tx}{k:Nat}{b_:(List Int)}{v9:Int}{v10:Int}{zb:Bool}(hzb:zb=true→b_=[]) {o:Tx}(h:Z12 K0_ k b_ v9 v10=some o)
  (hK0:Z9m K0_ o (Q (.exit 0)))
  (hr:∀ s,Ends a47.results 0 (Z6y o) .ret s→Q .ret s) :
  Sv Tryz.prog (GG mL) 0 (.loop a47_c1) Q ⟨(ue [(10,(I v10)),(9,(I v9)),(8,(lstV zb 0 1 b_.length)),(3,(lstV zb 0 1 b_.length))]),(upd e0 0 (lstB zb 1 (b_.map (eK .u8)))),1⟩:=by
 refine Sv.loop (I:=Z9o (Z12 K0_) o) (fun k s hI=>?_) ⟨b_,v9,v10,zb,hzb,h,rfl⟩
 clear h
 clear hzb zb v10 v9 b_
 obtain ⟨b_,v9,v10,zb,hzb,h,rfl⟩:=hI
 cases k with
 | zero=>cases h
 | succ k =>
 rw [Z12] at h
 have hself:Z9l (Z12 K0_ k) o (rnd 0 (Z9o (Z12 K0_) o) k Q):=fun b_ v9 v10 zb hzb h s hw=>⟨_,k,hw,Nat.lt_succ_self k,b_,v9,v10,zb,hzb,h,rfl⟩
 refine ssr<|un1 (v:=(B (decide (v10<v9)))) rfl<|dnil<|Sv.seq ?_
 refine Sv.cnd rfl h (fun h=>?_) fun h=>?_
 ·refine Sv.skip<|Sv.seq<|Sv.block<|ssr<|un1 rfl ?_
  obtain ⟨x_,hx1,h⟩:=bnd h
  refine un1 (v:=(.c (.ref 0 1 v10.toNat 0))) (s_iaddrL rfl rfl hzb hx1)<|un1 (v:=(.c (.val (.int .u8 x_)))) (s_loadL (z:=zb) (e:=(eK .u8)) rfl rfl hzb hx1 rfl rfl)<|un1 rfl<|un1 rfl<|dnil<|ssr<|un1 rfl<|un1 (v:=(I (wr .i64 x_))) rfl<|un<|ac_pure (Zo (mL:=mL) (wr .i64 x_) 65 90) rfl rfl rfl<|dnil ?_
  refine Sv.cnd rfl h (fun h=>?_) fun h=>?_
  ·refine srg<|un1 rfl<|un1 rfl<|un1 rfl<|un1 (v:=(.c (.val (.int .u8 (wr .u8 (x_+32)))))) rfl ?_
   obtain ⟨x_1,hx2,h⟩:=bnd h
   refine un1 (v:=(.c (.ref 0 1 v10.toNat 0))) (s_iaddrL rfl rfl hzb hx2)<|un<|a2n (h' := upd _ 0 (lstB zb 1 ((b_.set v10.toNat (wr .u8 (x_+32))).map (eK .u8)))) (n' := 1) rfl (s_storeL (e:=(eK .u8)) (q' := (wr .u8 (x_+32))) rfl rfl hzb hx2 rfl rfl rfl (Nat.le_of_ble_eq_true rfl) rfl) hcs ?_
   try rw [len_set b_ v10.toNat (wr .u8 (x_+32))]
   refine dnil ?_
   exact Sv.weak (wcn [0] rfl (.cf rfl rfl (.cf rfl rfl (.cons rfl (.c (lsr rfl rfl)) (.cons rfl (.c (lsr rfl rfl)) .nil)))) (.row (by decide) rfl (fr_map fun _=>rfl) .nil)) (Z9n (hz_len hzb (len_set b_ v10.toNat (wr .u8 (x_+32)))) h hself hK0 hr)
  ·refine Sv.skip ?_
   exact Sv.weak (wcn [0] rfl (.cf rfl rfl (.cf rfl rfl (.cons rfl (.c (lsr rfl rfl)) (.cons rfl (.c (lsr rfl rfl)) .nil)))) (.row (by decide) rfl (fr_map fun _=>rfl) .nil)) (Z9n hzb h hself hK0 hr)
 ·refine Sv.exit ?_
  exact hK0 b_ zb hzb h _ (wcn [0] rfl (.cons rfl (.c (lsr rfl rfl)) .nil) (.row (by decide) rfl (fr_map fun _=>rfl) .nil))
noncomputable def Z3b (s_:Tx):Option Tx :=
 lim fun kk=>Z12 (fun (b_1:(List Int)) => 
   some (byts b_1)) kk (ints s_) ((ints s_).length:Int) 0
theorem Z9p {mL:Int}{s_:Tx}{r:Tx}(h:Z3b s_=some r):CPure Tryz.prog (GG mL) 47 [(S s_)] (S r):=by
 refine acalls_of_sv hmix c47 (R:=Z6y r) ?_
 unfold Z3b at h
 refine ssr<|un1 rfl<|dnil<|ssr<|un1 rfl<|un<|a2v (v:=(lstV false 0 1 (ints s_).length)) (h' := upd _ 0 (lstB false 1 ((ints s_).map (eK .u8)))) (n' := 1) rfl (s_toBytes rfl) hcs<|un1 rfl<|dnil<|Sv.seq<|ssr<|un1 rfl<|un1 (v:=(I ((ints s_).length:Int))) (s_lenL rfl (len_nil_of hcs))<|un1 rfl<|dnil<|Sv.block ?_
 obtain ⟨kk,h⟩:=lim_some h
 refine Sv.weak (wcn [0] rfl (.cf rfl rfl (.cf rfl rfl (.cons rfl (.c (lsr rfl rfl)) (.cons rfl (.c (lsr rfl rfl)) .nil)))) (.row (by decide) rfl (fr_map fun _=>rfl) .nil)) (Zek hcs h ?_ (fun s hs=>hs))
 ·intro b_1 zb_1 hzb_1 h _ hw1
  refine Sv.weak hw1<|ssr<|un1 rfl<|un1 (v:=(S (byts b_1))) (s_ofBytes (xs:=b_1) rfl (slc_lst rfl (List.length_map _).symm (map_nil_of hzb_1)))<|un1 rfl<|dnil<|Sv.ret ?_
  exact rt0 h rfl rfl ⟨rfl,rfl,rfl⟩
def a24_c0:ACode:=(sr [(oP 20 (.bin .lss (.tmp 19) (.tmp 18)))]
 (.seq (.cond (.tmp 20) .skip (.exit 0))
 (.seq (.block 1 (sr [(mV 21 19),(oP 22 (.iaddr 1 (.tmp 17) (.tmp 19))),(oP 23 (.load false 1 (.tmp 22))),(mV 6 21),(mV 7 23)]
 (sr [(mV 24 7),(oP 25 (.conv .i64 (.tmp 24))),(oP 26 (.call 14 [(.tmp 25),(kI 97),(kI 122)])),(oP 27 (.un .not (.tmp 26))),(mV 28 27),⟨(some 29),(.mov (.tmp 6)),(some (28,true))⟩,⟨(some 30),(.bin .eql (.tmp 29) (kI 0)),(some (28,true))⟩,⟨(some 31),(.mov (.tmp 30)),(some (28,true))⟩,⟨(some 32),(.mov (.tmp 7)),(some (31,false))⟩,⟨(some 33),(.conv .i64 (.tmp 32)),(some (31,false))⟩,⟨(some 34),(.call 14 [(.tmp 33),(kI 48),(kI 57)]),(some (31,false))⟩,⟨(some 35),(.un .not (.tmp 34)),(some (31,false))⟩,⟨(some 36),(.mov (.tmp 35)),(some (31,false))⟩,⟨(some 37),(.mov (.tmp 7)),(some (36,true))⟩,⟨(some 38),(.bin .neq (.tmp 37) (.const (.c (.val (.int .u8 43))))),(some (36,true))⟩,⟨(some 39),(.pick (.tmp 36) (.tmp 38) kF),(some (31,false))⟩,⟨(some 40),(.mov (.tmp 39)),(some (31,false))⟩,⟨(some 41),(.mov (.tmp 7)),(some (40,true))⟩,⟨(some 42),(.bin .neq (.tmp 41) (.const (.c (.val (.int .u8 45))))),(some (40,true))⟩,⟨(some 43),(.pick (.tmp 40) (.tmp 42) kF),(some (31,false))⟩,⟨(some 44),(.mov (.tmp 43)),(some (31,false))⟩,⟨(some 45),(.mov (.tmp 7)),(some (44,true))⟩,⟨(some 46),(.bin .neq (.tmp 45) (.const (.c (.val (.int .u8 46))))),(some (44,true))⟩,⟨(some 47),(.pick (.tmp 44) (.tmp 46) kF),(some (31,false))⟩,⟨(some 48),(.pick (.tmp 31) kT (.tmp 47)),(some (28,true))⟩,(oP 49 (.pick (.tmp 28) (.tmp 48) kF))]
 (.cond (.tmp 49) (sr [(oP 2 (.mov (.const (.c (.str []))))),(oP 3 (.mov kF))]
 .ret) .skip))))
 (.region [(oP 50 (.bin .add (.tmp 19) (kI 1))),(mV 19 50)]))))
def a24:AFunc:=⟨1,[(.tmp 2),(.tmp 3)],(sr [(oP 2 (.mov (.const (.c (.str []))))),(oP 3 (.mov kF))]
 (sr [(mV 8 0),(oP 9 (.call 43 [(.tmp 8),(.const (.c (.str [58])))])),(mV 4 9)]
 (.seq (sr [(mV 10 4),(oP 11 (.bin .lss (.tmp 10) (kI 1)))]
 (.cond (.tmp 11) (sr [(oP 2 (.mov (.const (.c (.str []))))),(oP 3 (.mov kF))]
 .ret) .skip))
 (sr [(mV 12 0),(mV 13 4),(oP 14 (.slStr (.tmp 12) none (some (.tmp 13)))),(oP 15 (.call 47 [(.tmp 14)])),(mV 5 15)]
 (.seq (sr [(mV 16 5),(oP 17 (.toBytes (.tmp 16))),(oP 18 (.len (.tmp 17))),(oP 19 (.mov (kI 0)))]
 (.block 0 (.loop a24_c0)))
 (sr [(mV 51 5),(mV 2 51),(oP 3 (.mov kT))]
 .ret))))))⟩
theorem c24:compFunc Tryz.prog 24=some a24:=by kernel_rfl
def Z9q (r:(Tx×Bool)):AV→Heap→Nat→Prop:=fun v h' n' => v=(.tup [(S r.1),(B r.2)])∧(h' = e0)∧n' = 0
abbrev Zel (r_2:Tx) (F_:Unit→Option (Tx×Bool)) (o:(Tx×Bool)) (R_:St→Prop):Prop:=∀(_:Unit),F_ ()=some o→∀ s,Weak 0 s ⟨(upd e0 5 (some (S r_2))),e0,0⟩→R_ s
abbrev Z9r (r_2:Tx) (F_:Nat→Int→Option (Tx×Bool)) (o:(Tx×Bool)):Nat→St→Prop:=fun k s=>∃(v19:Int),F_ k v19=some o∧s=⟨(ue [(19,(I v19)),(18,(I ((ints r_2).length:Int))),(17,(lstV false 0 1 (ints r_2).length)),(5,(S r_2))]),(upd e0 0 (lstB false 1 ((ints r_2).map (eK .u8)))),1⟩
abbrev Zem (r_2:Tx) (F_:Int→Option (Tx×Bool)) (o:(Tx×Bool)) (R_:St→Prop):Prop:=∀(v19:Int),F_ v19=some o→∀ s,Weak 0 s ⟨(ue [(19,(I v19)),(18,(I ((ints r_2).length:Int))),(17,(lstV false 0 1 (ints r_2).length)),(5,(S r_2))]),(upd e0 0 (lstB false 1 ((ints r_2).map (eK .u8)))),1⟩→R_ s
noncomputable def Z1f (r_2:Tx) (K0_:Unit→Option (Tx×Bool)):Nat→Int→Option (Tx×Bool)
 | 0,_=>none
 | k+1,v19 =>
  if decide (v19<((ints r_2).length:Int)) then
   (at? (ints r_2) v19).bind fun x_ =>
   if ((!(Z1 (wr .i64 x_) 97 122))&&((decide (v19=0))||((((!(Z1 (wr .i64 x_) 48 57))&&(!decide (x_=43)))&&(!decide (x_=45)))&&(!decide (x_=46))))) then
    some ([],false)
   else
    (Z1f r_2 K0_ k) (wi (v19+1))
  else
   K0_ ()
theorem Zen {mL:Int}{Q:AExit→St→Prop}{r_2:Tx}{K0_:Unit→Option (Tx×Bool)}{k:Nat}{v19:Int}{o:(Tx×Bool)}(h:Z1f r_2 K0_ k v19=some o)
  (hK0:Zel r_2 K0_ o (Q (.exit 0)))
  (hr:∀ s,Ends a24.results 0 (Z9q o) .ret s→Q .ret s) :
  Sv Tryz.prog (GG mL) 0 (.loop a24_c0) Q ⟨(ue [(19,(I v19)),(18,(I ((ints r_2).length:Int))),(17,(lstV false 0 1 (ints r_2).length)),(5,(S r_2))]),(upd e0 0 (lstB false 1 ((ints r_2).map (eK .u8)))),1⟩:=by
 refine Sv.loop (I:=Z9r r_2 (Z1f r_2 K0_) o) (fun k s hI=>?_) ⟨v19,h,rfl⟩
 clear h
 clear v19
 obtain ⟨v19,h,rfl⟩:=hI
 cases k with
 | zero=>cases h
 | succ k =>
 rw [Z1f] at h
 have hself:Zem r_2 (Z1f r_2 K0_ k) o (rnd 0 (Z9r r_2 (Z1f r_2 K0_) o) k Q):=fun v19 h s hw=>⟨_,k,hw,Nat.lt_succ_self k,v19,h,rfl⟩
 refine ssr<|un1 (v:=(B (decide (v19<((ints r_2).length:Int))))) rfl<|dnil<|Sv.seq ?_
 refine Sv.cnd rfl h (fun h=>?_) fun h=>?_
 ·refine Sv.skip<|Sv.seq<|Sv.block<|ssr<|un1 rfl ?_
  obtain ⟨x_,hx2,h⟩:=bnd h
  refine un1 (v:=(.c (.ref 0 1 v19.toNat 0))) (s_iaddrL rfl rfl hcs hx2)<|un1 (v:=(.c (.val (.int .u8 x_)))) (s_loadL (z:=false) (e:=(eK .u8)) rfl rfl hcs hx2 rfl rfl)<|un1 rfl<|un1 rfl<|dnil<|ssr<|un1 rfl<|un1 (v:=(I (wr .i64 x_))) rfl<|un<|ac_pure (Zo (mL:=mL) (wr .i64 x_) 97 122) rfl rfl rfl<|un1 (v:=(B (!(Z1 (wr .i64 x_) 97 122)))) rfl<|un1 rfl ?_
  refine gjoin 21 (d:=49) (v:=(B ((!(Z1 (wr .i64 x_) 97 122))&&((decide (v19=0))||((((!(Z1 (wr .i64 x_) 48 57))&&(!decide (x_=43)))&&(!decide (x_=45)))&&(!decide (x_=46))))))) (fun X hX=>?_) ?_
  ·refine split2 (fun hc7=>?_) (fun hc7=>?_)
   ·refine gt rfl<|a1 rfl<|gt rfl<|a1 (v:=(B (decide (v19=0)))) rfl<|gt rfl<|a1 rfl ?_
    refine gjoin 17 (d:=48) (v:=(B ((decide (v19=0))||((((!(Z1 (wr .i64 x_) 48 57))&&(!decide (x_=43)))&&(!decide (x_=45)))&&(!decide (x_=46)))))) (fun X hX=>?_) ?_
    ·refine split2 (fun hc6=>?_) (fun hc6=>?_)
     ·repeat (first | refine gu rfl ?_ | refine gs rfl rfl ?_)
      refine gt rfl<|a1 (v:=(B true)) rfl<|dnil ?_
      exact hX _ (.putEq (by rw [hc6]; rfl) (by repeat (first | exact .putEq (by rw [hc6]) (.refl _) | refine .skp ?_ rfl)))
     ·refine gt rfl<|a1 rfl<|gt rfl<|a1 (v:=(I (wr .i64 x_))) rfl<|gt rfl<|ac_pure (Zo (mL:=mL) (wr .i64 x_) 48 57) rfl rfl rfl<|gt rfl<|a1 (v:=(B (!(Z1 (wr .i64 x_) 48 57)))) rfl<|gt rfl<|a1 rfl ?_
      refine gjoin 3 (d:=39) (v:=(B ((!(Z1 (wr .i64 x_) 48 57))&&(!decide (x_=43))))) (fun X hX=>?_) ?_
      ·refine split2 (fun hc3=>?_) (fun hc3=>?_)
       ·refine gt rfl<|a1 rfl<|gt rfl<|a1 (v:=(B (!decide (x_=43)))) rfl<|gt rfl<|a1 (v:=(B (!decide (x_=43)))) rfl<|dnil ?_
        exact hX _ (.putEq (by rw [hc3]; rfl) (.skp (.skp (.putEq (by rw [hc3]) (.refl _)) rfl) rfl))
       ·refine gs rfl rfl<|gs rfl rfl<|gt rfl<|a1 (v:=(B false)) rfl<|dnil ?_
        exact hX _ (.putEq (by rw [hc3]; rfl) (.skp (.skp (.putEq (by rw [hc3]) (.refl _)) rfl) rfl))
      refine gt rfl<|a1 rfl ?_
      refine gjoin 3 (d:=43) (v:=(B (((!(Z1 (wr .i64 x_) 48 57))&&(!decide (x_=43)))&&(!decide (x_=45))))) (fun X hX=>?_) ?_
      ·refine split2 (fun hc4=>?_) (fun hc4=>?_)
       ·refine gt rfl<|a1 rfl<|gt rfl<|a1 (v:=(B (!decide (x_=45)))) rfl<|gt rfl<|a1 (v:=(B (!decide (x_=45)))) rfl<|dnil ?_
        exact hX _ (.putEq (by rw [hc4]; rfl) (.skp (.skp (.putEq (by rw [hc4]) (.refl _)) rfl) rfl))
       ·refine gs rfl rfl<|gs rfl rfl<|gt rfl<|a1 (v:=(B false)) rfl<|dnil ?_
        exact hX _ (.putEq (by rw [hc4]; rfl) (.skp (.skp (.putEq (by rw [hc4]) (.refl _)) rfl) rfl))
      refine gt rfl<|a1 rfl ?_
      refine gjoin 3 (d:=47) (v:=(B ((((!(Z1 (wr .i64 x_) 48 57))&&(!decide (x_=43)))&&(!decide (x_=45)))&&(!decide (x_=46))))) (fun X hX=>?_) ?_
      ·refine split2 (fun hc5=>?_) (fun hc5=>?_)
       ·refine gt rfl<|a1 rfl<|gt rfl<|a1 (v:=(B (!decide (x_=46)))) rfl<|gt rfl<|a1 (v:=(B (!decide (x_=46)))) rfl<|dnil ?_
        exact hX _ (.putEq (by rw [hc5]; rfl) (.skp (.skp (.putEq (by rw [hc5]) (.refl _)) rfl) rfl))
       ·refine gs rfl rfl<|gs rfl rfl<|gt rfl<|a1 (v:=(B false)) rfl<|dnil ?_
        exact hX _ (.putEq (by rw [hc5]; rfl) (.skp (.skp (.putEq (by rw [hc5]) (.refl _)) rfl) rfl))
      refine gt rfl<|a1 (v:=(B ((((!(Z1 (wr .i64 x_) 48 57))&&(!decide (x_=43)))&&(!decide (x_=45)))&&(!decide (x_=46))))) rfl<|dnil ?_
      exact hX _ (.putEq (by rw [hc6]; rfl) (by repeat (first | exact .putEq (by rw [hc6]) (.refl _) | refine .skp ?_ rfl)))
    refine un1 (v:=(B ((decide (v19=0))||((((!(Z1 (wr .i64 x_) 48 57))&&(!decide (x_=43)))&&(!decide (x_=45)))&&(!decide (x_=46)))))) rfl<|dnil ?_
    exact hX _ (.putEq (by rw [hc7]; rfl) (.skp (.skp (.skp (.skp (.putEq (by rw [hc7]) (.refl _)) rfl) rfl) rfl) rfl))
   ·repeat (first | refine gu rfl ?_ | refine gs rfl rfl ?_)
    refine un1 (v:=(B false)) rfl<|dnil ?_
    exact hX _ (.putEq (by rw [hc7]; rfl) (by repeat (first | exact .putEq (by rw [hc7]) (.refl _) | refine .skp ?_ rfl)))
  refine dnil ?_
  refine Sv.cnd rfl h (fun h=>?_) fun h=>?_
  ·refine ssr<|un1 rfl<|un1 rfl<|dnil<|Sv.ret ?_
   exact hr _ (rt0 h rfl rfl ⟨rfl,rfl,rfl⟩)
  ·refine Sv.skip<|srg<|un1 (v:=(I (wi (v19+1)))) rfl<|un1 rfl<|dnil ?_
   exact hself (wi (v19+1)) h _ (wcn [0] rfl (.cf rfl rfl (.cf rfl rfl (.cons rfl (.c (lsr rfl rfl)) (.cf rfl rfl .nil)))) (.row (by decide) rfl (fr_map fun _=>rfl) .nil))
 ·refine Sv.exit ?_
  exact hK0 () h _ (wcn [] rfl (.cf rfl rfl .nil) .nil)
noncomputable def Z3c (s_:Tx):Option (Tx×Bool) :=
 (Z6x s_ [58]).bind fun r_ =>
 if decide (r_<1) then
  some ([],false)
 else
  (sub? s_ 0 r_).bind fun r_1 =>
  (Z3b r_1).bind fun r_2 =>
  lim fun kk=>Z1f r_2 (fun (_:Unit) => 
    some (r_2,true)) kk 0
theorem Z9s {mL:Int}{s_:Tx}{r:(Tx×Bool)}(h:Z3c s_=some r):CPure Tryz.prog (GG mL) 24 [(S s_)] (.tup [(S r.1),(B r.2)]):=by
 refine acalls_of_sv hmix c24 (R:=Z9q r) ?_
 unfold Z3c at h
 refine ssr<|un1 rfl<|un1 rfl<|dnil<|ssr<|un1 rfl ?_
 obtain ⟨r_,hr1,h⟩:=bnd h
 refine un<|ac_pure (Z9k hr1) rfl rfl rfl<|un1 rfl<|dnil<|Sv.seq<|ssr<|un1 rfl<|un1 (v:=(B (decide (r_<1)))) rfl<|dnil ?_
 refine Sv.cnd rfl h (fun h=>?_) fun h=>?_
 ·refine ssr<|un1 rfl<|un1 rfl<|dnil<|Sv.ret ?_
  exact rt0 h rfl rfl ⟨rfl,rfl,rfl⟩
 ·refine Sv.skip<|ssr<|un1 rfl<|un1 rfl ?_
  obtain ⟨r_1,hx1,h⟩:=bnd h
  refine un1 (v:=(S r_1)) (s_slStr rfl rfl rfl hx1) ?_
  obtain ⟨r_2,hr2,h⟩:=bnd h
  refine un<|ac_pure (Z9p hr2) rfl rfl rfl<|un1 rfl<|dnil<|Sv.seq<|ssr<|un1 rfl<|un<|a2v (v:=(lstV false 0 1 (ints r_2).length)) (h' := upd _ 0 (lstB false 1 ((ints r_2).map (eK .u8)))) (n' := 1) rfl (s_toBytes rfl) hcs<|un1 (v:=(I ((ints r_2).length:Int))) (s_lenL rfl (len_nil_of hcs))<|un1 rfl<|dnil<|Sv.block ?_
  obtain ⟨kk,h⟩:=lim_some h
  refine Sv.weak (wcn [0] rfl (.cf rfl rfl (.cf rfl rfl (.cons rfl (.c (lsr rfl rfl)) (.cf rfl rfl .nil)))) (.row (by decide) rfl (fr_map fun _=>rfl) .nil)) (Zen h ?_ (fun s hs=>hs))
  ·intro _ h _ hw1
   refine Sv.weak hw1<|ssr<|un1 rfl<|un1 rfl<|un1 rfl<|dnil<|Sv.ret ?_
   exact rt0 h rfl rfl ⟨rfl,rfl,rfl⟩
def a46:AFunc:=⟨0,[(.cell true 8 0),(.tmp 1)],(sr [(oP 0 (.box (.const (.agg [(.str []),(.str []),(.val (.int .i64 0)),(.ro true 1 []),(.str []),(.val (.bool false)),(.str []),(.val (.bool false))])))),(oP 1 (.mov (kI 0)))]
 (sr [(oP 2 (.build [(.str []),(.str []),(.val (.int .i64 0)),(.ro true 1 []),(.str []),(.val (.bool false)),(.str []),(.val (.bool false))] [])),(oN (.store 8 (.tmp 0) (.tmp 2))),(oP 1 (.mov (kI 3)))]
 .ret))⟩
theorem c46:compFunc Tryz.prog 46=some a46:=by kernel_rfl
def Zeo (r:(TJUrl×Int)):AV→Heap→Nat→Prop:=fun v h' n' => v=(.tup [(.agg [.str r.1.Scheme,.str r.1.Host,cI r.1.Port,.ro false 1 (r.1.Path.map eStr),.str r.1.Query,cB r.1.Asks,.str r.1.Fragment,cB r.1.Points]),(I r.2)])∧(h' = e0)∧n' = 0
def Z0:(TJUrl×Int) :=
 ((⟨[],[],0,[],[],false,[],false⟩:TJUrl),3)
theorem Z4t {mL:Int}:CPure Tryz.prog (GG mL) 46 [] (.tup [(.agg [.str Z0.1.Scheme,.str Z0.1.Host,cI Z0.1.Port,.ro false 1 (Z0.1.Path.map eStr),.str Z0.1.Query,cB Z0.1.Asks,.str Z0.1.Fragment,cB Z0.1.Points]),(I Z0.2)]):=by
 generalize h:Z0=o
 refine acalls_of_sv hmix c46 (R:=Zeo o) ?_
 unfold Z0 at h
 refine ssr<|un<|a2v (v:=(.c (.ref 0 8 0 0))) (h' := upd _ 0 (some (.cells 8 [[.str [],.str [],cI 0,.ro true 1 [],.str [],cB false,.str [],cB false]]))) (n' := 1) rfl rfl hcs<|un1 rfl<|dnil<|ssr<|un1 (v:=(.agg [.str [],.str [],cI 0,.ro true 1 [],.str [],cB false,.str [],cB false])) rfl<|un<|a2n (h' := upd _ 0 (some (.cells 8 [[.str [],.str [],cI 0,.ro true 1 [],.str [],cB false,.str [],cB false]]))) (n' := 1) rfl rfl hcs<|un1 rfl<|dnil<|Sv.ret ?_
 subst h
 exact ⟨_,.refl _,_,rfl,⟨upd e0 0 (some (.tup [(.agg [.str [],.str [],cI 0,.ro false 1 (([]:TT).map eStr),.str [],cB false,.str [],cB false]),(I 3)])),e0,0⟩,(.tup [(.agg [.str [],.str [],cI 0,.ro false 1 (([]:TT).map eStr),.str [],cB false,.str [],cB false]),(I 3)]),weak_canon [] rfl ndl nll nlz (.cons rfl (avAs_tup (.cons (avAs_agg (.sm rfl (.sm rfl (.sm rfl (.cons .nil (.sm rfl (.sm rfl (.sm rfl (.sm rfl .nil))))))))) (.cons (avAs_free rfl) .nil))) .nil) .nil,rfl,rfl,rfl,rfl⟩
def a38_c0:ACode:=(.cond (.tmp 24) (.seq (.drawn (.fin [((mV 25 0),(0,0)),((mV 26 6),(0,1)),((oP 27 (.slStr (.tmp 25) none (some (.tmp 26)))),(0,2)),((mV 28 0),(0,3)),((mV 29 6),(0,4)),((oP 30 (.slStr (.tmp 28) (some (.tmp 29)) none)),(0,5)),((mV 4 27),(0,6)),((mV 5 30),(0,7))]))
 .ret) .skip)
def a38_c1:ACode:=(.region [(oP 31 (.bin .add (.tmp 9) (kI 1))),(mV 9 31)])
def a38_c2:ACode:=(sr [(oP 10 (.bin .lss (.tmp 9) (.tmp 8)))]
 (.seq (.cond (.tmp 10) .skip (.exit 0))
 (.seq (.block 1 (sr [(mV 11 9),(mV 6 11)]
 (sr [(mV 12 0),(mV 13 6),(oP 14 (.idxS (.tmp 12) (.tmp 13))),(oP 15 (.bin .lss (.tmp 14) (.const (.c (.val (.int .u8 128)))))),(mV 16 15),⟨(some 17),(.mov (.tmp 1)),(some (16,true))⟩,⟨(some 18),(.mov (.tmp 0)),(some (16,true))⟩,⟨(some 19),(.mov (.tmp 6)),(some (16,true))⟩,⟨(some 20),(.mov (.tmp 6)),(some (16,true))⟩,⟨(some 21),(.bin .add (.tmp 20) (kI 1)),(some (16,true))⟩,⟨(some 22),(.slStr (.tmp 18) (some (.tmp 19)) (some (.tmp 21))),(some (16,true))⟩,⟨(some 23),(.call 18 [(.tmp 17),(.tmp 22)]),(some (16,true))⟩,(oP 24 (.pick (.tmp 16) (.tmp 23) kF))]
 a38_c0)))
 a38_c1)))
def a38:AFunc:=⟨2,[(.tmp 4),(.tmp 5)],(sr [(oP 4 (.mov (.const (.c (.str []))))),(oP 5 (.mov (.const (.c (.str [])))))]
 (.seq (sr [(mV 7 0),(oP 8 (.lenS (.tmp 7))),(oP 9 (.mov (kI 0)))]
 (.block 0 (.loop a38_c2)))
 (sr [(mV 32 0),(mV 4 32),(oP 5 (.mov (.const (.c (.str [])))))]
 .ret)))⟩
theorem c38:compFunc Tryz.prog 38=some a38:=by kernel_rfl
def Z6z (r:(Tx×Tx)):AV→Heap→Nat→Prop:=fun v h' n' => v=(.tup [(S r.1),(S r.2)])∧(h' = e0)∧n' = 0
abbrev Zep (mL:Int) (Q:AExit→St→Prop):AExit→St→Prop:=AThen (Sv Tryz.prog (GG mL) 0 a38_c1 Q) Q
abbrev Zeq (mL:Int) (Q:AExit→St→Prop):AExit→St→Prop:=ABlock 1 (Zep mL Q)
abbrev Z9t (s_:Tx) (marks:Tx) (F_:Int→Option (Tx×Tx)) (o:(Tx×Tx)) (R_:St→Prop):Prop:=∀(v9:Int),F_ v9=some o→∀ s,Weak 0 s ⟨(ue [(9,(I v9)),(8,(I (s_.length:Int))),(1,(S marks)),(0,(S s_))]),e0,0⟩→R_ s
abbrev Z9u (s_:Tx) (F_:Unit→Option (Tx×Tx)) (o:(Tx×Tx)) (R_:St→Prop):Prop:=∀(_:Unit),F_ ()=some o→∀ s,Weak 0 s ⟨(upd e0 0 (some (S s_))),e0,0⟩→R_ s
noncomputable def Z4u (s_:Tx) (v9:Int) (marks:Tx) (self:Int→Option (Tx×Tx)) (K0_:Unit→Option (Tx×Tx)) (v24:Bool):Option (Tx×Tx) :=
 if v24 then
  (sub? s_ 0 v9).bind fun r_ =>
  (sub? s_ v9 (s_.length:Int)).bind fun r_1 =>
  some (r_,r_1)
 else
  self (wi (v9+1))
theorem Z9v {mL:Int}{Q:AExit→St→Prop}{s_:Tx}{v9:Int}{marks:Tx}{self:Int→Option (Tx×Tx)}{K0_:Unit→Option (Tx×Tx)}{v24:Bool}{o:(Tx×Tx)}(h:Z4u s_ v9 marks self K0_ v24=some o)
  (hself:Z9t s_ marks self o (Q .normal))
  (hK0:Z9u s_ K0_ o (Q (.exit 0)))
  (hr:∀ s,Ends a38.results 0 (Z6z o) .ret s→Q .ret s) :
  Sv Tryz.prog (GG mL) 0 a38_c0 (Zeq mL Q) ⟨(ue [(24,(B v24)),(9,(I v9)),(8,(I (s_.length:Int))),(6,(I v9)),(1,(S marks)),(0,(S s_))]),e0,0⟩:=by
 unfold Z4u at h
 refine Sv.cnd rfl h (fun h=>?_) fun h=>?_
 ·refine Sv.seq<|Sv.drawn<|un1 rfl<|un1 rfl ?_
  obtain ⟨r_,hx1,h⟩:=bnd h
  refine un1 (v:=(S r_)) (s_slStr rfl rfl rfl hx1)<|un1 rfl<|un1 rfl ?_
  obtain ⟨r_1,hx2,h⟩:=bnd h
  refine un1 (v:=(S r_1)) (s_slStr rfl rfl rfl hx2)<|un1 rfl<|un1 rfl<|dnil<|Sv.ret ?_
  exact hr _ (rt0 h rfl rfl ⟨rfl,rfl,rfl⟩)
 ·refine Sv.skip<|srg<|un1 (v:=(I (wi (v9+1)))) rfl<|un1 rfl<|dnil ?_
  exact hself (wi (v9+1)) h _ (wcn [] rfl (.cf rfl rfl (.cf rfl rfl (.cf rfl rfl (.cf rfl rfl .nil)))) .nil)
abbrev Z9w (s_:Tx) (marks:Tx) (F_:Nat→Int→Option (Tx×Tx)) (o:(Tx×Tx)):Nat→St→Prop:=fun k s=>∃(v9:Int),F_ k v9=some o∧s=⟨(ue [(9,(I v9)),(8,(I (s_.length:Int))),(1,(S marks)),(0,(S s_))]),e0,0⟩
noncomputable def Z13 (s_:Tx) (marks:Tx) (K0_:Unit→Option (Tx×Tx)):Nat→Int→Option (Tx×Tx)
 | 0,_=>none
 | k+1,v9 =>
  if decide (v9<(s_.length:Int)) then
   (at? s_ v9).bind fun c_ =>
   if decide ((c_.toNat:Int)<128) then
    (sub? s_ v9 (wi (v9+1))).bind fun r_2 =>
    (Z2j marks r_2).bind fun r_3 =>
    Z4u s_ v9 marks (Z13 s_ marks K0_ k) K0_ r_3
   else
    Z4u s_ v9 marks (Z13 s_ marks K0_ k) K0_ false
  else
   K0_ ()
theorem Zer {mL:Int}{Q:AExit→St→Prop}{s_:Tx}{marks:Tx}{K0_:Unit→Option (Tx×Tx)}{k:Nat}{v9:Int}{o:(Tx×Tx)}(h:Z13 s_ marks K0_ k v9=some o)
  (hK0:Z9u s_ K0_ o (Q (.exit 0)))
  (hr:∀ s,Ends a38.results 0 (Z6z o) .ret s→Q .ret s) :
  Sv Tryz.prog (GG mL) 0 (.loop a38_c2) Q ⟨(ue [(9,(I v9)),(8,(I (s_.length:Int))),(1,(S marks)),(0,(S s_))]),e0,0⟩:=by
 refine Sv.loop (I:=Z9w s_ marks (Z13 s_ marks K0_) o) (fun k s hI=>?_) ⟨v9,h,rfl⟩
 clear h
 clear v9
 obtain ⟨v9,h,rfl⟩:=hI
 cases k with
 | zero=>cases h
 | succ k =>
 rw [Z13] at h
 have hself:Z9t s_ marks (Z13 s_ marks K0_ k) o (rnd 0 (Z9w s_ marks (Z13 s_ marks K0_) o) k Q):=fun v9 h s hw=>⟨_,k,hw,Nat.lt_succ_self k,v9,h,rfl⟩
 refine ssr<|un1 (v:=(B (decide (v9<(s_.length:Int))))) rfl<|dnil<|Sv.seq ?_
 refine Sv.cnd rfl h (fun h=>?_) fun h=>?_
 ·refine Sv.skip<|Sv.seq<|Sv.block<|ssr<|un1 rfl<|un1 rfl<|dnil<|ssr<|un1 rfl<|un1 rfl ?_
  obtain ⟨c_,hx3,h⟩:=bnd h
  refine un1 (v:=(.c (.val (.int .u8 (c_.toNat:Int))))) (s_idxS rfl rfl hx3)<|un1 (v:=(B (decide ((c_.toNat:Int)<128)))) rfl<|un1 rfl ?_
  refine spl h (fun h=>?_) fun h=>?_
  ·refine gt rfl<|a1 rfl<|gt rfl<|a1 rfl<|gt rfl<|a1 rfl<|gt rfl<|a1 rfl<|gt rfl<|a1 (v:=(I (wi (v9+1)))) rfl ?_
   obtain ⟨r_2,hx4,h⟩:=bnd h
   refine gt rfl<|a1 (v:=(S r_2)) (s_slStr rfl rfl rfl hx4) ?_
   obtain ⟨r_3,hr1,h⟩:=bnd h
   refine gt rfl<|ac_pure (Z4m hr1) rfl rfl rfl<|un1 (v:=(B r_3)) rfl<|dnil ?_
   exact Sv.weak (wcn [] rfl (.cf rfl rfl (.cf rfl rfl (.cf rfl rfl (.cf rfl rfl (.cf rfl rfl (.cf rfl rfl .nil)))))) .nil) (Z9v h hself hK0 hr)
  ·repeat (first | refine gu rfl ?_ | refine gs rfl rfl ?_)
   refine un1 (v:=(B false)) rfl<|dnil ?_
   exact Sv.weak (wcn [] rfl (.cf rfl rfl (.cf rfl rfl (.cf rfl rfl (.cf rfl rfl (.cf rfl rfl (.cf rfl rfl .nil)))))) .nil) (Z9v h hself hK0 hr)
 ·refine Sv.exit ?_
  exact hK0 () h _ (wcn [] rfl (.cf rfl rfl .nil) .nil)
noncomputable def Z8 (s_:Tx) (marks:Tx):Option (Tx×Tx) :=
 lim fun kk=>Z13 s_ marks (fun (_:Unit) => 
   some (s_,[])) kk 0
theorem Z1w {mL:Int}{s_:Tx}{marks:Tx}{r:(Tx×Tx)}(h:Z8 s_ marks=some r):CPure Tryz.prog (GG mL) 38 [(S s_),(S marks)] (.tup [(S r.1),(S r.2)]):=by
 refine acalls_of_sv hmix c38 (R:=Z6z r) ?_
 unfold Z8 at h
 refine ssr<|un1 rfl<|un1 rfl<|dnil<|Sv.seq<|ssr<|un1 rfl<|un1 (v:=(I (s_.length:Int))) rfl<|un1 rfl<|dnil<|Sv.block ?_
 obtain ⟨kk,h⟩:=lim_some h
 refine Sv.weak (wcn [] rfl (.cf rfl rfl (.cf rfl rfl (.cf rfl rfl (.cf rfl rfl .nil)))) .nil) (Zer h ?_ (fun s hs=>hs))
 ·intro _ h _ hw1
  refine Sv.weak hw1<|ssr<|un1 rfl<|un1 rfl<|un1 rfl<|dnil<|Sv.ret ?_
  exact rt0 h rfl rfl ⟨rfl,rfl,rfl⟩
def a48_c0:ACode:=(sr [(oP 14 (.bin .lss (.tmp 13) (.tmp 12)))]
 (.seq (.cond (.tmp 14) .skip (.exit 0))
 (.seq (.block 1 (sr [(oP 15 (.iaddr 1 (.tmp 11) (.tmp 13))),(oP 16 (.load false 1 (.tmp 15))),(mV 5 16)]
 (.seq (sr [(mV 17 5),(oP 18 (.conv .i64 (.tmp 17))),(oP 19 (.call 14 [(.tmp 18),(kI 97),(kI 122)])),(oP 20 (.un .not (.tmp 19))),(mV 21 20),⟨(some 22),(.mov (.tmp 5)),(some (21,true))⟩,⟨(some 23),(.conv .i64 (.tmp 22)),(some (21,true))⟩,⟨(some 24),(.call 14 [(.tmp 23),(kI 48),(kI 57)]),(some (21,true))⟩,⟨(some 25),(.un .not (.tmp 24)),(some (21,true))⟩,(oP 26 (.pick (.tmp 21) (.tmp 25) kF)),(mV 27 26),⟨(some 28),(.mov (.tmp 5)),(some (27,true))⟩,⟨(some 29),(.bin .neq (.tmp 28) (.const (.c (.val (.int .u8 45))))),(some (27,true))⟩,(oP 30 (.pick (.tmp 27) (.tmp 29) kF)),(mV 31 30),⟨(some 32),(.mov (.tmp 5)),(some (31,true))⟩,⟨(some 33),(.bin .neq (.tmp 32) (.const (.c (.val (.int .u8 46))))),(some (31,true))⟩,(oP 34 (.pick (.tmp 31) (.tmp 33) kF)),(mV 35 34),⟨(some 36),(.mov (.tmp 5)),(some (35,false))⟩,⟨(some 37),(.bin .eql (.tmp 36) (.const (.c (.val (.int .u8 46))))),(some (35,false))⟩,⟨(some 38),(.mov (.tmp 37)),(some (35,false))⟩,⟨(some 39),(.mov (.tmp 3)),(some (38,true))⟩,⟨(some 40),(.bin .eql (.tmp 39) (.const (.c (.val (.int .u8 46))))),(some (38,true))⟩,⟨(some 41),(.pick (.tmp 38) (.tmp 40) kF),(some (35,false))⟩,(oP 42 (.pick (.tmp 35) kT (.tmp 41)))]
 (.cond (.tmp 42) (sr [(oP 2 (.mov kF))]
 .ret) .skip))
 (.region [(mV 43 5),(mV 3 43)]))))
 (.region [(oP 44 (.bin .add (.tmp 13) (kI 1))),(mV 13 44)]))))
def a48:AFunc:=⟨1,[(.tmp 2)],(sr [(oP 2 (.mov kF))]
 (.seq (sr [(mV 6 0),(oP 7 (.lenS (.tmp 6))),(oP 8 (.call 14 [(.tmp 7),(kI 1),(kI 100)])),(oP 9 (.un .not (.tmp 8)))]
 (.cond (.tmp 9) (sr [(oP 2 (.mov kF))]
 .ret) .skip))
 (sr [(oP 3 (.mov (.const (.c (.val (.int .u8 46))))))]
 (.seq (sr [(mV 10 0),(oP 11 (.toBytes (.tmp 10))),(oP 12 (.len (.tmp 11))),(oP 13 (.mov (kI 0)))]
 (.block 0 (.loop a48_c0)))
 (sr [(mV 45 3),(oP 46 (.bin .neq (.tmp 45) (.const (.c (.val (.int .u8 46)))))),(mV 2 46)]
 .ret)))))⟩
theorem c48:compFunc Tryz.prog 48=some a48:=by kernel_rfl
def Z9x (r:Bool):AV→Heap→Nat→Prop:=fun v h' n' => v=(B r)∧(h' = e0)∧n' = 0
abbrev Zes (F_:Int→Option Bool) (o:Bool) (R_:St→Prop):Prop:=∀(last1:Int),F_ last1=some o→∀ s,Weak 0 s ⟨(upd e0 3 (some (.c (.val (.int .u8 last1))))),e0,0⟩→R_ s
abbrev Z9y (h_:Tx) (F_:Nat→Int→Int→Option Bool) (o:Bool):Nat→St→Prop:=fun k s=>∃(last:Int),∃(v13:Int),F_ k last v13=some o∧s=⟨(ue [(13,(I v13)),(12,(I ((ints h_).length:Int))),(11,(lstV false 0 1 (ints h_).length)),(3,(.c (.val (.int .u8 last))))]),(upd e0 0 (lstB false 1 ((ints h_).map (eK .u8)))),1⟩
abbrev Zet (h_:Tx) (F_:Int→Int→Option Bool) (o:Bool) (R_:St→Prop):Prop:=∀(last:Int) (v13:Int),F_ last v13=some o→∀ s,Weak 0 s ⟨(ue [(13,(I v13)),(12,(I ((ints h_).length:Int))),(11,(lstV false 0 1 (ints h_).length)),(3,(.c (.val (.int .u8 last))))]),(upd e0 0 (lstB false 1 ((ints h_).map (eK .u8)))),1⟩→R_ s
noncomputable def Z1g (h_:Tx) (K0_:Int→Option Bool):Nat→Int→Int→Option Bool
 | 0,_,_=>none
 | k+1,last,v13 =>
  if decide (v13<((ints h_).length:Int)) then
   (at? (ints h_) v13).bind fun x_ =>
   if (((((!(Z1 (wr .i64 x_) 97 122))&&(!(Z1 (wr .i64 x_) 48 57)))&&(!decide (x_=45)))&&(!decide (x_=46)))||((decide (x_=46))&&(decide (last=46)))) then
    some false
   else
    (Z1g h_ K0_ k) x_ (wi (v13+1))
  else
   K0_ last
theorem Zeu {mL:Int}{Q:AExit→St→Prop}{h_:Tx}{K0_:Int→Option Bool}{k:Nat}{last:Int}{v13:Int}{o:Bool}(h:Z1g h_ K0_ k last v13=some o)
  (hK0:Zes K0_ o (Q (.exit 0)))
  (hr:∀ s,Ends a48.results 0 (Z9x o) .ret s→Q .ret s) :
  Sv Tryz.prog (GG mL) 0 (.loop a48_c0) Q ⟨(ue [(13,(I v13)),(12,(I ((ints h_).length:Int))),(11,(lstV false 0 1 (ints h_).length)),(3,(.c (.val (.int .u8 last))))]),(upd e0 0 (lstB false 1 ((ints h_).map (eK .u8)))),1⟩:=by
 refine Sv.loop (I:=Z9y h_ (Z1g h_ K0_) o) (fun k s hI=>?_) ⟨last,v13,h,rfl⟩
 clear h
 clear v13 last
 obtain ⟨last,v13,h,rfl⟩:=hI
 cases k with
 | zero=>cases h
 | succ k =>
 rw [Z1g] at h
 have hself:Zet h_ (Z1g h_ K0_ k) o (rnd 0 (Z9y h_ (Z1g h_ K0_) o) k Q):=fun last v13 h s hw=>⟨_,k,hw,Nat.lt_succ_self k,last,v13,h,rfl⟩
 refine ssr<|un1 (v:=(B (decide (v13<((ints h_).length:Int))))) rfl<|dnil<|Sv.seq ?_
 refine Sv.cnd rfl h (fun h=>?_) fun h=>?_
 ·refine Sv.skip<|Sv.seq<|Sv.block<|ssr ?_
  obtain ⟨x_,hx1,h⟩:=bnd h
  refine un1 (v:=(.c (.ref 0 1 v13.toNat 0))) (s_iaddrL rfl rfl hcs hx1)<|un1 (v:=(.c (.val (.int .u8 x_)))) (s_loadL (z:=false) (e:=(eK .u8)) rfl rfl hcs hx1 rfl rfl)<|un1 rfl<|dnil<|Sv.seq<|ssr<|un1 rfl<|un1 (v:=(I (wr .i64 x_))) rfl<|un<|ac_pure (Zo (mL:=mL) (wr .i64 x_) 97 122) rfl rfl rfl<|un1 (v:=(B (!(Z1 (wr .i64 x_) 97 122)))) rfl<|un1 rfl ?_
  refine gjoin 5 (d:=26) (v:=(B ((!(Z1 (wr .i64 x_) 97 122))&&(!(Z1 (wr .i64 x_) 48 57))))) (fun X hX=>?_) ?_
  ·refine split2 (fun hc3=>?_) (fun hc3=>?_)
   ·refine gt rfl<|a1 rfl<|gt rfl<|a1 (v:=(I (wr .i64 x_))) rfl<|gt rfl<|ac_pure (Zo (mL:=mL) (wr .i64 x_) 48 57) rfl rfl rfl<|gt rfl<|a1 (v:=(B (!(Z1 (wr .i64 x_) 48 57)))) rfl<|un1 (v:=(B (!(Z1 (wr .i64 x_) 48 57)))) rfl<|dnil ?_
    exact hX _ (.putEq (by rw [hc3]; rfl) (.skp (.skp (.skp (.skp (.putEq (by rw [hc3]) (.refl _)) rfl) rfl) rfl) rfl))
   ·refine gs rfl rfl<|gs rfl rfl<|gs rfl rfl<|gs rfl rfl<|un1 (v:=(B false)) rfl<|dnil ?_
    exact hX _ (.putEq (by rw [hc3]; rfl) (.skp (.skp (.skp (.skp (.putEq (by rw [hc3]) (.refl _)) rfl) rfl) rfl) rfl))
  refine un1 rfl ?_
  refine gjoin 3 (d:=30) (v:=(B (((!(Z1 (wr .i64 x_) 97 122))&&(!(Z1 (wr .i64 x_) 48 57)))&&(!decide (x_=45))))) (fun X hX=>?_) ?_
  ·refine split2 (fun hc4=>?_) (fun hc4=>?_)
   ·refine gt rfl<|a1 rfl<|gt rfl<|a1 (v:=(B (!decide (x_=45)))) rfl<|un1 (v:=(B (!decide (x_=45)))) rfl<|dnil ?_
    exact hX _ (.putEq (by rw [hc4]; rfl) (.skp (.skp (.putEq (by rw [hc4]) (.refl _)) rfl) rfl))
   ·refine gs rfl rfl<|gs rfl rfl<|un1 (v:=(B false)) rfl<|dnil ?_
    exact hX _ (.putEq (by rw [hc4]; rfl) (.skp (.skp (.putEq (by rw [hc4]) (.refl _)) rfl) rfl))
  refine un1 rfl ?_
  refine gjoin 3 (d:=34) (v:=(B ((((!(Z1 (wr .i64 x_) 97 122))&&(!(Z1 (wr .i64 x_) 48 57)))&&(!decide (x_=45)))&&(!decide (x_=46))))) (fun X hX=>?_) ?_
  ·refine split2 (fun hc5=>?_) (fun hc5=>?_)
   ·refine gt rfl<|a1 rfl<|gt rfl<|a1 (v:=(B (!decide (x_=46)))) rfl<|un1 (v:=(B (!decide (x_=46)))) rfl<|dnil ?_
    exact hX _ (.putEq (by rw [hc5]; rfl) (.skp (.skp (.putEq (by rw [hc5]) (.refl _)) rfl) rfl))
   ·refine gs rfl rfl<|gs rfl rfl<|un1 (v:=(B false)) rfl<|dnil ?_
    exact hX _ (.putEq (by rw [hc5]; rfl) (.skp (.skp (.putEq (by rw [hc5]) (.refl _)) rfl) rfl))
  refine un1 rfl ?_
  refine gjoin 7 (d:=42) (v:=(B (((((!(Z1 (wr .i64 x_) 97 122))&&(!(Z1 (wr .i64 x_) 48 57)))&&(!decide (x_=45)))&&(!decide (x_=46)))||((decide (x_=46))&&(decide (last=46)))))) (fun X hX=>?_) ?_
  ·refine split2 (fun hc7=>?_) (fun hc7=>?_)
   ·repeat (first | refine gu rfl ?_ | refine gs rfl rfl ?_)
    refine un1 (v:=(B true)) rfl<|dnil ?_
    exact hX _ (.putEq (by rw [hc7]; rfl) (by repeat (first | exact .putEq (by rw [hc7]) (.refl _) | refine .skp ?_ rfl)))
   ·refine gt rfl<|a1 rfl<|gt rfl<|a1 (v:=(B (decide (x_=46)))) rfl<|gt rfl<|a1 rfl ?_
    refine gjoin 3 (d:=41) (v:=(B ((decide (x_=46))&&(decide (last=46))))) (fun X hX=>?_) ?_
    ·refine split2 (fun hc6=>?_) (fun hc6=>?_)
     ·refine gt rfl<|a1 rfl<|gt rfl<|a1 (v:=(B (decide (last=46)))) rfl<|gt rfl<|a1 (v:=(B (decide (last=46)))) rfl<|dnil ?_
      exact hX _ (.putEq (by rw [hc6]; rfl) (.skp (.skp (.putEq (by rw [hc6]) (.refl _)) rfl) rfl))
     ·refine gs rfl rfl<|gs rfl rfl<|gt rfl<|a1 (v:=(B false)) rfl<|dnil ?_
      exact hX _ (.putEq (by rw [hc6]; rfl) (.skp (.skp (.putEq (by rw [hc6]) (.refl _)) rfl) rfl))
    refine un1 (v:=(B ((decide (x_=46))&&(decide (last=46))))) rfl<|dnil ?_
    exact hX _ (.putEq (by rw [hc7]; rfl) (.skp (.skp (.skp (.skp (.putEq (by rw [hc7]) (.refl _)) rfl) rfl) rfl) rfl))
  refine dnil ?_
  refine Sv.cnd rfl h (fun h=>?_) fun h=>?_
  ·refine ssr<|un1 rfl<|dnil<|Sv.ret ?_
   exact hr _ (rt0 h rfl rfl ⟨rfl,rfl,rfl⟩)
  ·refine Sv.skip<|srg<|un1 rfl<|un1 rfl<|dnil<|srg<|un1 (v:=(I (wi (v13+1)))) rfl<|un1 rfl<|dnil ?_
   exact hself x_ (wi (v13+1)) h _ (wcn [0] rfl (.cf rfl rfl (.cf rfl rfl (.cons rfl (.c (lsr rfl rfl)) (.cf rfl rfl .nil)))) (.row (by decide) rfl (fr_map fun _=>rfl) .nil))
 ·refine Sv.exit ?_
  exact hK0 last h _ (wcn [] rfl (.cf rfl rfl .nil) .nil)
noncomputable def Z4v (h_:Tx):Option Bool :=
 if (!(Z1 (h_.length:Int) 1 100)) then
  some false
 else
  lim fun kk=>Z1g h_ (fun (last1:Int) => 
    some (!decide (last1=46))) kk 46 0
theorem Zev {mL:Int}{h_:Tx}{r:Bool}(h:Z4v h_=some r):CPure Tryz.prog (GG mL) 48 [(S h_)] (B r):=by
 refine acalls_of_sv hmix c48 (R:=Z9x r) ?_
 unfold Z4v at h
 refine ssr<|un1 rfl<|dnil<|Sv.seq<|ssr<|un1 rfl<|un1 (v:=(I (h_.length:Int))) rfl<|un<|ac_pure (Zo (mL:=mL) (h_.length:Int) 1 100) rfl rfl rfl<|un1 (v:=(B (!(Z1 (h_.length:Int) 1 100)))) rfl<|dnil ?_
 refine Sv.cnd rfl h (fun h=>?_) fun h=>?_
 ·refine ssr<|un1 rfl<|dnil<|Sv.ret ?_
  exact rt0 h rfl rfl ⟨rfl,rfl,rfl⟩
 ·refine Sv.skip<|ssr<|un1 rfl<|dnil<|Sv.seq<|ssr<|un1 rfl<|un<|a2v (v:=(lstV false 0 1 (ints h_).length)) (h' := upd _ 0 (lstB false 1 ((ints h_).map (eK .u8)))) (n' := 1) rfl (s_toBytes rfl) hcs<|un1 (v:=(I ((ints h_).length:Int))) (s_lenL rfl (len_nil_of hcs))<|un1 rfl<|dnil<|Sv.block ?_
  obtain ⟨kk,h⟩:=lim_some h
  refine Sv.weak (wcn [0] rfl (.cf rfl rfl (.cf rfl rfl (.cons rfl (.c (lsr rfl rfl)) (.cf rfl rfl .nil)))) (.row (by decide) rfl (fr_map fun _=>rfl) .nil)) (Zeu h ?_ (fun s hs=>hs))
  ·intro last1 h _ hw1
   refine Sv.weak hw1<|ssr<|un1 rfl<|un1 (v:=(B (!decide (last1=46)))) rfl<|un1 rfl<|dnil<|Sv.ret ?_
   exact rt0 h rfl rfl ⟨rfl,rfl,rfl⟩
noncomputable abbrev Z9z (l:List UInt8) (x0:Int):Option Tx:=bGrow? x0
theorem Zew {mL:Int}{z:Bool}{l:List UInt8}{x0:Int}{r:List UInt8}(hz:z=true→l=[]) (h:Z9z l x0=some r):ACalls Tryz.prog (GG mL) 118 [.c (.ref 0 2 0 0),(I x0)] (bldH 90 5 true []) 2 (bPost 90 5 (.tup []) r):=bGrow_ok blays bL4 b165 h
def a102_c0:ACode:=(.seq (sr [(mV 11 5),(mV 12 0),(oP 13 (.lenS (.tmp 12))),(oP 14 (.bin .lss (.tmp 11) (.tmp 13)))]
 (.cond (.tmp 14) .skip (.exit 0)))
 (.seq (.block 1 (sr [(mV 17 0),(mV 18 5),(oP 19 (.idxS (.tmp 17) (.tmp 18))),(mV 6 19)]
 (.seq (sr [(mV 20 6),(oP 21 (.bin .geq (.tmp 20) (.const (.c (.val (.int .u8 128))))))]
 (.cond (.tmp 21) (sr [(oP 3 (.mov kF))]
 (.exit 0)) .skip))
 (.region [(mV 22 4),(mV 23 22),⟨(some 24),(.mov (.tmp 6)),(some (23,false))⟩,⟨(some 25),(.bin .leq (.const (.c (.val (.int .u8 65)))) (.tmp 24)),(some (23,false))⟩,⟨(some 26),(.mov (.tmp 25)),(some (23,false))⟩,⟨(some 27),(.mov (.tmp 6)),(some (26,true))⟩,⟨(some 28),(.bin .leq (.tmp 27) (.const (.c (.val (.int .u8 90))))),(some (26,true))⟩,⟨(some 29),(.pick (.tmp 26) (.tmp 28) kF),(some (23,false))⟩,(oP 30 (.pick (.tmp 23) kT (.tmp 29))),(mV 4 30)]))))
 (.region [(mV 15 5),(oP 16 (.bin .add (.tmp 15) (kI 1))),(mV 5 16)])))
def a102_c1:ACode:=(sr [(mV 63 10),(oP 64 (.call 95 [(.tmp 7),(.tmp 63)]))]
 (.region [(mV 65 9),(oP 66 (.bin .add (.tmp 65) (kI 1))),(mV 8 66)]))
def a102_c2:ACode:=(.region [(mV 42 9),(oP 43 (.bin .add (.tmp 42) (kI 1))),(mV 9 43)])
def a102_c3:ACode:=(.seq (sr [(mV 38 9),(mV 39 0),(oP 40 (.lenS (.tmp 39))),(oP 41 (.bin .lss (.tmp 38) (.tmp 40)))]
 (.cond (.tmp 41) .skip (.exit 2)))
 (.seq (.block 3 (sr [(mV 44 0),(mV 45 9),(oP 46 (.idxS (.tmp 44) (.tmp 45))),(mV 10 46)]
 (sr [(mV 47 10),(oP 48 (.bin .leq (.const (.c (.val (.int .u8 65)))) (.tmp 47))),(mV 49 48),⟨(some 50),(.mov (.tmp 10)),(some (49,true))⟩,⟨(some 51),(.bin .leq (.tmp 50) (.const (.c (.val (.int .u8 90))))),(some (49,true))⟩,(oP 52 (.pick (.tmp 49) (.tmp 51) kF))]
 (.cond (.tmp 52) (sr [(mV 53 10),(oP 54 (.bin .add (.tmp 53) (.const (.c (.val (.int .u8 32)))))),(mV 10 54)]
 (.seq (sr [(mV 55 8),(mV 56 9),(oP 57 (.bin .lss (.tmp 55) (.tmp 56)))]
 (.cond (.tmp 57) (.region [(mV 58 0),(mV 59 8),(mV 60 9),(oP 61 (.slStr (.tmp 58) (some (.tmp 59)) (some (.tmp 60)))),(oP 62 (.call 67 [(.tmp 7),(.tmp 61)]))]) .skip))
 a102_c1)) .skip))))
 a102_c2))
def a102_c4:ACode:=(sr [(oP 75 (.call 70 [(.tmp 7)])),(mV 2 75)]
 .ret)
def a102_c5:ACode:=(sr [(mV 76 0),(oP 77 (.call 89 [(.const (.c (.fn (.func 124) [] []))),(.tmp 76)])),(mV 2 77)]
 .ret)
def a102:AFunc:=⟨1,[(.tmp 2)],(sr [(oP 2 (.mov (.const (.c (.str [])))))]
 (sr [(oP 3 (.mov kT)),(oP 4 (.mov kF))]
 (.seq (sr [(oP 5 (.mov (kI 0)))]
 (.block 0 (.loop a102_c0)))
 (.seq (sr [(mV 31 3)]
 (.cond (.tmp 31) (.seq (sr [(mV 32 4),(oP 33 (.un .not (.tmp 32)))]
 (.cond (.tmp 33) (sr [(mV 34 0),(mV 2 34)]
 .ret) .skip))
 (sr [(oP 7 (.boxB 90))]
 (sr [(oP 8 (.mov (kI 0)))]
 (sr [(mV 35 0),(oP 36 (.lenS (.tmp 35))),(oP 37 (.call 118 [(.tmp 7),(.tmp 36)]))]
 (.seq (sr [(oP 9 (.mov (kI 0)))]
 (.block 2 (.loop a102_c3)))
 (.seq (sr [(mV 67 8),(mV 68 0),(oP 69 (.lenS (.tmp 68))),(oP 70 (.bin .lss (.tmp 67) (.tmp 69)))]
 (.cond (.tmp 70) (.region [(mV 71 0),(mV 72 8),(oP 73 (.slStr (.tmp 71) (some (.tmp 72)) none)),(oP 74 (.call 67 [(.tmp 7),(.tmp 73)]))]) .skip))
 a102_c4)))))) .skip))
 a102_c5))))⟩
theorem c102:compFunc Tryz.prog 102=some a102:=by kernel_rfl
def Z2l (r:Tx):AV→Heap→Nat→Prop:=fun v h' n' => v=(S r)∧(h' = e0)∧n' = 0
abbrev Zex (s_:Tx) (F_:Bool→Bool→Option Tx) (o:Tx) (R_:St→Prop):Prop:=∀(isASCII:Bool) (hasUpper1:Bool),F_ isASCII hasUpper1=some o→∀ s,Weak 0 s ⟨(ue [(4,(B hasUpper1)),(3,(B isASCII)),(0,(S s_))]),e0,0⟩→R_ s
abbrev Za0 (s_:Tx) (F_:Nat→Bool→Int→Option Tx) (o:Tx):Nat→St→Prop:=fun k s=>∃(hasUpper:Bool),∃(i_:Int),F_ k hasUpper i_=some o∧s=⟨(ue [(5,(I i_)),(4,(B hasUpper)),(3,(B true)),(0,(S s_))]),e0,0⟩
abbrev Zey (s_:Tx) (F_:Bool→Int→Option Tx) (o:Tx) (R_:St→Prop):Prop:=∀(hasUpper:Bool) (i_:Int),F_ hasUpper i_=some o→∀ s,Weak 0 s ⟨(ue [(5,(I i_)),(4,(B hasUpper)),(3,(B true)),(0,(S s_))]),e0,0⟩→R_ s
noncomputable def Z14 (s_:Tx) (K0_:Bool→Bool→Option Tx):Nat→Bool→Int→Option Tx
 | 0,_,_=>none
 | k+1,hasUpper,i_ =>
  if decide (i_<(s_.length:Int)) then
   (at? s_ i_).bind fun c_ =>
   if decide (128≤(c_.toNat:Int)) then
    K0_ false hasUpper
   else
    (Z14 s_ K0_ k) (hasUpper||((decide (65≤(c_.toNat:Int)))&&(decide ((c_.toNat:Int)≤90)))) (wi (i_+1))
  else
   K0_ true hasUpper
theorem Zez {mL:Int}{Q:AExit→St→Prop}{s_:Tx}{K0_:Bool→Bool→Option Tx}{k:Nat}{hasUpper:Bool}{i_:Int}{o:Tx}(h:Z14 s_ K0_ k hasUpper i_=some o)
  (hK0:Zex s_ K0_ o (Q (.exit 0)))
  (hr:∀ s,Ends a102.results 0 (Z2l o) .ret s→Q .ret s) :
  Sv Tryz.prog (GG mL) 0 (.loop a102_c0) Q ⟨(ue [(5,(I i_)),(4,(B hasUpper)),(3,(B true)),(0,(S s_))]),e0,0⟩:=by
 refine Sv.loop (I:=Za0 s_ (Z14 s_ K0_) o) (fun k s hI=>?_) ⟨hasUpper,i_,h,rfl⟩
 clear h
 clear i_ hasUpper
 obtain ⟨hasUpper,i_,h,rfl⟩:=hI
 cases k with
 | zero=>cases h
 | succ k =>
 rw [Z14] at h
 have hself:Zey s_ (Z14 s_ K0_ k) o (rnd 0 (Za0 s_ (Z14 s_ K0_) o) k Q):=fun hasUpper i_ h s hw=>⟨_,k,hw,Nat.lt_succ_self k,hasUpper,i_,h,rfl⟩
 refine Sv.seq<|ssr<|un1 rfl<|un1 rfl<|un1 (v:=(I (s_.length:Int))) rfl<|un1 (v:=(B (decide (i_<(s_.length:Int))))) rfl<|dnil ?_
 refine Sv.cnd rfl h (fun h=>?_) fun h=>?_
 ·refine Sv.skip<|Sv.seq<|Sv.block<|ssr<|un1 rfl<|un1 rfl ?_
  obtain ⟨c_,hx1,h⟩:=bnd h
  refine un1 (v:=(.c (.val (.int .u8 (c_.toNat:Int))))) (s_idxS rfl rfl hx1)<|un1 rfl<|dnil<|Sv.seq<|ssr<|un1 rfl<|un1 (v:=(B (decide (128≤(c_.toNat:Int))))) rfl<|dnil ?_
  refine Sv.cnd rfl h (fun h=>?_) fun h=>?_
  ·refine ssr<|un1 rfl<|dnil<|Sv.exit ?_
   exact hK0 false hasUpper h _ (wcn [] rfl (.cf rfl rfl (.cf rfl rfl (.cf rfl rfl .nil))) .nil)
  ·refine Sv.skip<|srg<|un1 rfl<|un1 rfl ?_
   refine gjoin 7 (d:=30) (v:=(B (hasUpper||((decide (65≤(c_.toNat:Int)))&&(decide ((c_.toNat:Int)≤90)))))) (fun X hX=>?_) ?_
   ·refine split2 (fun hc4=>?_) (fun hc4=>?_)
    ·repeat (first | refine gu rfl ?_ | refine gs rfl rfl ?_)
     refine un1 (v:=(B true)) rfl<|dnil ?_
     exact hX _ (.putEq (by rw [hc4]; rfl) (by repeat (first | exact .putEq (by rw [hc4]) (.refl _) | refine .skp ?_ rfl)))
    ·refine gt rfl<|a1 rfl<|gt rfl<|a1 (v:=(B (decide (65≤(c_.toNat:Int))))) rfl<|gt rfl<|a1 rfl ?_
     refine gjoin 3 (d:=29) (v:=(B ((decide (65≤(c_.toNat:Int)))&&(decide ((c_.toNat:Int)≤90))))) (fun X hX=>?_) ?_
     ·refine split2 (fun hc3=>?_) (fun hc3=>?_)
      ·refine gt rfl<|a1 rfl<|gt rfl<|a1 (v:=(B (decide ((c_.toNat:Int)≤90)))) rfl<|gt rfl<|a1 (v:=(B (decide ((c_.toNat:Int)≤90)))) rfl<|dnil ?_
       exact hX _ (.putEq (by rw [hc3]; rfl) (.skp (.skp (.putEq (by rw [hc3]) (.refl _)) rfl) rfl))
      ·refine gs rfl rfl<|gs rfl rfl<|gt rfl<|a1 (v:=(B false)) rfl<|dnil ?_
       exact hX _ (.putEq (by rw [hc3]; rfl) (.skp (.skp (.putEq (by rw [hc3]) (.refl _)) rfl) rfl))
     refine un1 (v:=(B ((decide (65≤(c_.toNat:Int)))&&(decide ((c_.toNat:Int)≤90))))) rfl<|dnil ?_
     exact hX _ (.putEq (by rw [hc4]; rfl) (.skp (.skp (.skp (.skp (.putEq (by rw [hc4]) (.refl _)) rfl) rfl) rfl) rfl))
   refine un1 rfl<|dnil<|srg<|un1 rfl<|un1 (v:=(I (wi (i_+1)))) rfl<|un1 rfl<|dnil ?_
   exact hself (hasUpper||((decide (65≤(c_.toNat:Int)))&&(decide ((c_.toNat:Int)≤90)))) (wi (i_+1)) h _ (wcn [] rfl (.cf rfl rfl (.cf rfl rfl (.cf rfl rfl (.cf rfl rfl .nil)))) .nil)
 ·refine Sv.exit ?_
  exact hK0 true hasUpper h _ (wcn [] rfl (.cf rfl rfl (.cf rfl rfl (.cf rfl rfl .nil))) .nil)
abbrev Z70 (s_:Tx) (F_:Tx→Int→Int→Option Tx) (o:Tx) (R_:St→Prop):Prop:=∀(b_:Tx) (pos_:Int) (i_1:Int) (zb:Bool) (_:zb=true→b_=[]),F_ b_ pos_ i_1=some o→∀ s,Weak 0 s ⟨(ue [(9,(I i_1)),(8,(I pos_)),(7,(.c (.ref 0 2 0 0))),(0,(S s_))]),(upd (upd e0 0 (some (.bld 90 zb 1 b_.length))) 1 (bufB zb 5 b_)),2⟩→R_ s
abbrev Z71 (s_:Tx) (F_:Tx→Int→Option Tx) (o:Tx) (R_:St→Prop):Prop:=∀(b_1:Tx) (pos_1:Int) (zb_1:Bool) (_:zb_1=true→b_1=[]),F_ b_1 pos_1=some o→∀ s,Weak 0 s ⟨(ue [(8,(I pos_1)),(7,(.c (.ref 0 2 0 0))),(0,(S s_))]),(upd (upd e0 0 (some (.bld 90 zb_1 1 b_1.length))) 1 (bufB zb_1 5 b_1)),2⟩→R_ s
noncomputable def Z3d (i_1:Int) (s_:Tx) (self:Tx→Int→Int→Option Tx) (K2_:Tx→Int→Option Tx) (b_2:Tx) (pos_2:Int):Option Tx :=
 self b_2 pos_2 (wi (i_1+1))
theorem Za1 {mL:Int}{Q:AExit→St→Prop}{i_1:Int}{s_:Tx}{self:Tx→Int→Int→Option Tx}{K2_:Tx→Int→Option Tx}{b_2:Tx}{pos_2:Int}{zb_2:Bool}(hzb_2:zb_2=true→b_2=[]) {o:Tx}(h:Z3d i_1 s_ self K2_ b_2 pos_2=some o)
  (hself:Z70 s_ self o (Q .normal))
  (hK2:Z71 s_ K2_ o (Q (.exit 2)))
  (hr:∀ s,Ends a102.results 0 (Z2l o) .ret s→Q .ret s) :
  Sv Tryz.prog (GG mL) 0 a102_c2 Q ⟨(ue [(9,(I i_1)),(8,(I pos_2)),(7,(.c (.ref 0 2 0 0))),(0,(S s_))]),(upd (upd e0 0 (some (.bld 90 zb_2 1 b_2.length))) 1 (bufB zb_2 5 b_2)),2⟩:=by
 unfold Z3d at h
 refine srg<|un1 rfl<|un1 (v:=(I (wi (i_1+1)))) rfl<|un1 rfl<|dnil ?_
 exact hself b_2 pos_2 (wi (i_1+1)) zb_2 hzb_2 h _ (wcn [0,1] rfl (.cf rfl rfl (.cf rfl rfl (.cr rfl rfl rfl (.cf rfl rfl .nil)))) (.buf (by decide) rfl (.box (by decide) rfl (.bld rfl (by decide)) .nil)))
abbrev Zf0 (mL:Int) (Q:AExit→St→Prop):AExit→St→Prop:=AThen (Sv Tryz.prog (GG mL) 0 a102_c2 Q) Q
abbrev Zf1 (mL:Int) (Q:AExit→St→Prop):AExit→St→Prop:=ABlock 3 (Zf0 mL Q)
noncomputable def Z3e (c_1:UInt8) (i_1:Int) (s_:Tx) (self:Tx→Int→Int→Option Tx) (K2_:Tx→Int→Option Tx) (b_3:Tx):Option Tx :=
 (Z42 b_3 (wr .u8 ((c_1.toNat:Int)+32))).bind fun r_1 =>
 Z3d i_1 s_ self K2_ r_1 (wi (i_1+1))
theorem Za2 {mL:Int}{Q:AExit→St→Prop}{c_1:UInt8}{i_1:Int}{s_:Tx}{self:Tx→Int→Int→Option Tx}{K2_:Tx→Int→Option Tx}{b_3:Tx}{zb_3:Bool}(hzb_3:zb_3=true→b_3=[]) {o:Tx}(h:Z3e c_1 i_1 s_ self K2_ b_3=some o)
  (hself:Z70 s_ self o (Q .normal))
  (hK2:Z71 s_ K2_ o (Q (.exit 2)))
  (hr:∀ s,Ends a102.results 0 (Z2l o) .ret s→Q .ret s) :
  Sv Tryz.prog (GG mL) 0 a102_c1 (Zf1 mL Q) ⟨(ue [(10,(.c (.val (.int .u8 (wr .u8 ((c_1.toNat:Int)+32)))))),(9,(I i_1)),(7,(.c (.ref 0 2 0 0))),(0,(S s_))]),(upd (upd e0 0 (some (.bld 90 zb_3 1 b_3.length))) 1 (bufB zb_3 5 b_3)),2⟩:=by
 unfold Z3e at h
 refine ssr<|un1 rfl ?_
 obtain ⟨r_1,hr2,h⟩:=bnd h
 refine un<|ac_gen (bs:=[0,1]) («as»:=[(.c (.ref 0 2 0 0)),(.c (.val (.int .u8 (wr .u8 ((c_1.toNat:Int)+32)))))]) (h2:=_) (h1:=(upd (upd e0 0 (some (.bld 90 zb_3 1 b_3.length))) 1 (bufB zb_3 5 b_3))) (Z6f (z:=zb_3) (l:=b_3) hzb_3 hr2) rfl (.cons (.c (.ref rfl (by decide))) (.cons (avAs_free rfl) .nil)) (hsub_refl _) (.cons rfl (.cons rfl (.nil _))) hcs (by decide) (by decide) (.cons (.c (.ref rfl (by decide))) (.cons (avAs_free rfl) .nil)) (.buf (by decide) rfl (.box (by decide) rfl (.bld rfl (by decide)) .nil)) ?_
 rintro _ _ _ hn ⟨z_1,hz_1,rfl,rfl,rfl⟩
 refine ⟨.inl rfl,(upd (upd (rem [0,1] _) 0 (some (.bld 90 z_1 2 r_1.length))) 2 (bufB z_1 5 r_1)),fun hbd=>(m3_cons (m3_buf rfl) (m3_cons (m3_box rfl rfl) (m3_rem (in_cons (by decide) (in_cons (by decide) (in_nil _))) (.cons (by decide) (.cons (by decide) .nil)) hbd))),(.c (.val .nilIface)),3,(by cases z_1 <;> rfl),rfl,?_⟩
 refine dnil<|srg<|un1 rfl<|un1 (v:=(I (wi (i_1+1)))) rfl<|un1 rfl<|dnil ?_
 exact Sv.weak (wcn [0,2] rfl (.cf rfl rfl (.cf rfl rfl (.cr rfl rfl rfl (.cf rfl rfl .nil)))) (.buf (by decide) rfl (.box (by decide) rfl (.bld rfl (by decide)) .nil))) (Za1 hz_1 h hself hK2 hr)
abbrev Za3 (s_:Tx) (F_:Nat→Tx→Int→Int→Option Tx) (o:Tx):Nat→St→Prop:=fun k s=>∃(b_:Tx),∃(pos_:Int),∃(i_1:Int),∃(zb:Bool),(zb=true→b_=[])∧F_ k b_ pos_ i_1=some o∧s=⟨(ue [(9,(I i_1)),(8,(I pos_)),(7,(.c (.ref 0 2 0 0))),(0,(S s_))]),(upd (upd e0 0 (some (.bld 90 zb 1 b_.length))) 1 (bufB zb 5 b_)),2⟩
noncomputable def Z9 (s_:Tx) (K2_:Tx→Int→Option Tx):Nat→Tx→Int→Int→Option Tx
 | 0,_,_,_=>none
 | k+1,b_,pos_,i_1 =>
  if decide (i_1<(s_.length:Int)) then
   (at? s_ i_1).bind fun c_1 =>
   if ((decide (65≤(c_1.toNat:Int)))&&(decide ((c_1.toNat:Int)≤90))) then
    if decide (pos_<i_1) then
     (sub? s_ pos_ i_1).bind fun r_2 =>
     (Zi b_ r_2).bind fun r_3 =>
     Z3e c_1 i_1 s_ (Z9 s_ K2_ k) K2_ r_3
    else
     Z3e c_1 i_1 s_ (Z9 s_ K2_ k) K2_ b_
   else
    Z3d i_1 s_ (Z9 s_ K2_ k) K2_ b_ pos_
  else
   K2_ b_ pos_
theorem Zf2 {mL:Int}{Q:AExit→St→Prop}{s_:Tx}{K2_:Tx→Int→Option Tx}{k:Nat}{b_:Tx}{pos_:Int}{i_1:Int}{zb:Bool}(hzb:zb=true→b_=[]) {o:Tx}(h:Z9 s_ K2_ k b_ pos_ i_1=some o)
  (hK2:Z71 s_ K2_ o (Q (.exit 2)))
  (hr:∀ s,Ends a102.results 0 (Z2l o) .ret s→Q .ret s) :
  Sv Tryz.prog (GG mL) 0 (.loop a102_c3) Q ⟨(ue [(9,(I i_1)),(8,(I pos_)),(7,(.c (.ref 0 2 0 0))),(0,(S s_))]),(upd (upd e0 0 (some (.bld 90 zb 1 b_.length))) 1 (bufB zb 5 b_)),2⟩:=by
 refine Sv.loop (I:=Za3 s_ (Z9 s_ K2_) o) (fun k s hI=>?_) ⟨b_,pos_,i_1,zb,hzb,h,rfl⟩
 clear h
 clear hzb zb i_1 pos_ b_
 obtain ⟨b_,pos_,i_1,zb,hzb,h,rfl⟩:=hI
 cases k with
 | zero=>cases h
 | succ k =>
 rw [Z9] at h
 have hself:Z70 s_ (Z9 s_ K2_ k) o (rnd 0 (Za3 s_ (Z9 s_ K2_) o) k Q):=fun b_ pos_ i_1 zb hzb h s hw=>⟨_,k,hw,Nat.lt_succ_self k,b_,pos_,i_1,zb,hzb,h,rfl⟩
 refine Sv.seq<|ssr<|un1 rfl<|un1 rfl<|un1 (v:=(I (s_.length:Int))) rfl<|un1 (v:=(B (decide (i_1<(s_.length:Int))))) rfl<|dnil ?_
 refine Sv.cnd rfl h (fun h=>?_) fun h=>?_
 ·refine Sv.skip<|Sv.seq<|Sv.block<|ssr<|un1 rfl<|un1 rfl ?_
  obtain ⟨c_1,hx2,h⟩:=bnd h
  refine un1 (v:=(.c (.val (.int .u8 (c_1.toNat:Int))))) (s_idxS rfl rfl hx2)<|un1 rfl<|dnil<|ssr<|un1 rfl<|un1 (v:=(B (decide (65≤(c_1.toNat:Int))))) rfl<|un1 rfl ?_
  refine gjoin 3 (d:=52) (v:=(B ((decide (65≤(c_1.toNat:Int)))&&(decide ((c_1.toNat:Int)≤90))))) (fun X hX=>?_) ?_
  ·refine split2 (fun hc8=>?_) (fun hc8=>?_)
   ·refine gt rfl<|a1 rfl<|gt rfl<|a1 (v:=(B (decide ((c_1.toNat:Int)≤90)))) rfl<|un1 (v:=(B (decide ((c_1.toNat:Int)≤90)))) rfl<|dnil ?_
    exact hX _ (.putEq (by rw [hc8]; rfl) (.skp (.skp (.putEq (by rw [hc8]) (.refl _)) rfl) rfl))
   ·refine gs rfl rfl<|gs rfl rfl<|un1 (v:=(B false)) rfl<|dnil ?_
    exact hX _ (.putEq (by rw [hc8]; rfl) (.skp (.skp (.putEq (by rw [hc8]) (.refl _)) rfl) rfl))
  refine dnil ?_
  refine Sv.cnd rfl h (fun h=>?_) fun h=>?_
  ·refine ssr<|un1 rfl<|un1 (v:=(.c (.val (.int .u8 (wr .u8 ((c_1.toNat:Int)+32)))))) rfl<|un1 rfl<|dnil<|Sv.seq<|ssr<|un1 rfl<|un1 rfl<|un1 (v:=(B (decide (pos_<i_1)))) rfl<|dnil ?_
   refine Sv.cnd rfl h (fun h=>?_) fun h=>?_
   ·refine srg<|un1 rfl<|un1 rfl<|un1 rfl ?_
    obtain ⟨r_2,hx3,h⟩:=bnd h
    refine un1 (v:=(S r_2)) (s_slStr rfl rfl rfl hx3) ?_
    obtain ⟨r_3,hr3,h⟩:=bnd h
    refine un<|ac_gen (bs:=[0,1]) («as»:=[(.c (.ref 0 2 0 0)),(S r_2)]) (h2:=_) (h1:=(upd (upd e0 0 (some (.bld 90 zb 1 b_.length))) 1 (bufB zb 5 b_))) (Z1p (z:=zb) (l:=b_) hzb hr3) rfl (.cons (.c (.ref rfl (by decide))) (.cons (avAs_free rfl) .nil)) (hsub_refl _) (.cons rfl (.cons rfl (.nil _))) hcs (by decide) (by decide) (.cons (.c (.ref rfl (by decide))) (.cons (avAs_free rfl) .nil)) (.buf (by decide) rfl (.box (by decide) rfl (.bld rfl (by decide)) .nil)) ?_
    rintro _ _ _ hn ⟨z_2,hz_2,rfl,rfl,rfl⟩
    refine ⟨.inl rfl,(upd (upd (rem [0,1] _) 0 (some (.bld 90 z_2 2 r_3.length))) 2 (bufB z_2 5 r_3)),fun hbd=>(m3_cons (m3_buf rfl) (m3_cons (m3_box rfl rfl) (m3_rem (in_cons (by decide) (in_cons (by decide) (in_nil _))) (.cons (by decide) (.cons (by decide) .nil)) hbd))),(.tup [(I (r_2.length:Int)),(.c (.val .nilIface))]),3,(by cases z_2 <;> rfl),rfl,?_⟩
    refine dnil ?_
    exact Sv.weak (wcn [0,2] rfl (.cf rfl rfl (.cf rfl rfl (.cr rfl rfl rfl (.cf rfl rfl .nil)))) (.buf (by decide) rfl (.box (by decide) rfl (.bld rfl (by decide)) .nil))) (Za2 hz_2 h hself hK2 hr)
   ·refine Sv.skip ?_
    exact Sv.weak (wcn [0,1] rfl (.cf rfl rfl (.cf rfl rfl (.cr rfl rfl rfl (.cf rfl rfl .nil)))) (.buf (by decide) rfl (.box (by decide) rfl (.bld rfl (by decide)) .nil))) (Za2 hzb h hself hK2 hr)
  ·refine Sv.skip ?_
   exact Sv.weak (wcn [0,1] rfl (.cf rfl rfl (.cf rfl rfl (.cr rfl rfl rfl (.cf rfl rfl .nil)))) (.buf (by decide) rfl (.box (by decide) rfl (.bld rfl (by decide)) .nil))) (Za1 hzb h hself hK2 hr)
 ·refine Sv.exit ?_
  exact hK2 b_ pos_ zb hzb h _ (wcn [0,1] rfl (.cf rfl rfl (.cr rfl rfl rfl (.cf rfl rfl .nil))) (.buf (by decide) rfl (.box (by decide) rfl (.bld rfl (by decide)) .nil)))
abbrev Zf3 (mL:Int) (o:Tx):AExit→St→Prop:=AThen (Sv Tryz.prog (GG mL) 0 a102_c5 (Ends a102.results 0 (Z2l o))) (Ends a102.results 0 (Z2l o))
noncomputable def Z2m (b_4:Tx):Option Tx :=
 some b_4
theorem Za4 {mL:Int}{b_4:Tx}{zb_4:Bool}(hzb_4:zb_4=true→b_4=[]) {o:Tx}(h:Z2m b_4=some o) :
  Sv Tryz.prog (GG mL) 0 a102_c4 (Zf3 mL o) ⟨(upd e0 7 (some (.c (.ref 0 2 0 0)))),(upd (upd e0 0 (some (.bld 90 zb_4 1 b_4.length))) 1 (bufB zb_4 5 b_4)),2⟩:=by
 unfold Z2m at h
 refine ssr<|un<|ac_gen (bs:=[0,1]) («as»:=[(.c (.ref 0 2 0 0))]) (h2:=_) (h1:=(upd (upd e0 0 (some (.bld 90 zb_4 1 b_4.length))) 1 (bufB zb_4 5 b_4))) (Z5f (z:=zb_4) (l:=b_4) hzb_4) rfl (.cons (.c (.ref rfl (by decide))) .nil) (hsub_refl _) (.cons rfl (.cons rfl (.nil _))) hcs (by decide) (by decide) (.cons (.c (.ref rfl (by decide))) .nil) (.buf (by decide) rfl (.box (by decide) rfl (.bld rfl (by decide)) .nil)) ?_
 rintro _ _ _ hn ⟨rfl,rfl,rfl⟩
 refine ⟨.inl rfl,(rem [0,1] _),fun hbd=>(m3_rem (in_cons (by decide) (in_cons (by decide) (in_nil _))) (.nil) hbd),(S b_4),2,rfl,rfl,?_⟩
 refine un1 rfl<|dnil<|Sv.ret ?_
 exact rt0 h rfl rfl ⟨rfl,rfl,rfl⟩
noncomputable def Z4w (s_:Tx):Option Tx :=
 lim fun kk1=>Z14 s_ (fun (isASCII:Bool) (hasUpper1:Bool) => 
   if isASCII then
    if (!hasUpper1) then
     some s_
    else
     (Z9z ([]:List UInt8) (s_.length:Int)).bind fun r_ =>
     lim fun kk=>Z9 s_ (fun (b_1:Tx) (pos_1:Int) => 
       if decide (pos_1<(s_.length:Int)) then
        (sub? s_ pos_1 (s_.length:Int)).bind fun r_4 =>
        (Zi b_1 r_4).bind fun r_5 =>
        Z2m r_5
       else
        Z2m b_1) kk r_ 0 0
   else
    none) kk1 false 0
theorem Zf4 {mL:Int}{s_:Tx}{r:Tx}(h:Z4w s_=some r):CPure Tryz.prog (GG mL) 102 [(S s_)] (S r):=by
 refine acalls_of_sv hmix c102 (R:=Z2l r) ?_
 unfold Z4w at h
 refine ssr<|un1 rfl<|dnil<|ssr<|un1 rfl<|un1 rfl<|dnil<|Sv.seq<|ssr<|un1 rfl<|dnil<|Sv.block ?_
 obtain ⟨kk1,h⟩:=lim_some h
 refine Sv.weak (wcn [] rfl (.cf rfl rfl (.cf rfl rfl (.cf rfl rfl (.cf rfl rfl .nil)))) .nil) (Zez h ?_ (fun s hs=>hs))
 ·intro isASCII hasUpper1 h _ hw1
  refine Sv.weak hw1<|Sv.seq<|ssr<|un1 rfl<|dnil ?_
  refine Sv.cnd rfl h (fun h=>?_) fun h=>?_
  ·refine Sv.seq<|ssr<|un1 rfl<|un1 (v:=(B (!hasUpper1))) rfl<|dnil ?_
   refine Sv.cnd rfl h (fun h=>?_) fun h=>?_
   ·refine ssr<|un1 rfl<|un1 rfl<|dnil<|Sv.ret ?_
    exact rt0 h rfl rfl ⟨rfl,rfl,rfl⟩
   ·refine Sv.skip<|ssr<|un<|a2v (v:=(.c (.ref 1 2 0 0))) (h' := upd _ 1 (some (.bld 90 true 0 ([]:List UInt8).length))) (n' := 2) rfl rfl hcs<|dnil<|ssr<|un1 rfl<|dnil<|ssr<|un1 rfl<|un1 (v:=(I (s_.length:Int))) rfl ?_
    obtain ⟨r_,hr1,h⟩:=bnd h
    refine un<|ac_gen (bs:=[1,0]) («as»:=[(.c (.ref 1 2 0 0)),(I (s_.length:Int))]) (h2:=_) (h1:=(upd e0 1 (some (.bld 90 true 0 ([]:List UInt8).length)))) (Zew (z:=true) (l:=([]:List UInt8)) (fun _=>rfl) hr1) rfl (.cons (.c (.ref rfl (by decide))) (.cons (avAs_free rfl) .nil)) (hsub_refl _) (.cons rfl (.nil _)) hcs (by decide) (by decide) (.cons (.c (.ref rfl (by decide))) (.cons (avAs_free rfl) .nil)) (.nonB (by decide) (.box (by decide) rfl (.bldN (by decide)) .nil)) ?_
    rintro _ _ _ hn ⟨z_,hz_,rfl,rfl,rfl⟩
    refine ⟨.inl rfl,(upd (upd (rem [1,0] _) 1 (some (.bld 90 z_ 2 r_.length))) 2 (bufB z_ 5 r_)),fun hbd=>(m3_cons (m3_buf rfl) (m3_cons (m3_box rfl rfl) (m3_rem (in_cons (by decide) (in_nil _)) (.cons (by decide) (.cons (by decide) .nil)) hbd))),(.tup []),3,(by cases z_ <;> rfl),rfl,?_⟩
    refine dnil<|Sv.seq<|ssr<|un1 rfl<|dnil<|Sv.block ?_
    obtain ⟨kk,h⟩:=lim_some h
    refine Sv.weak (wcn [1,2] rfl (.cf rfl rfl (.cf rfl rfl (.cr rfl rfl rfl (.cf rfl rfl .nil)))) (.buf (by decide) rfl (.box (by decide) rfl (.bld rfl (by decide)) .nil))) (Zf2 hz_ h ?_ (fun s hs=>hs))
    ·intro b_1 pos_1 zb_1 hzb_1 h _ hw2
     refine Sv.weak hw2<|Sv.seq<|ssr<|un1 rfl<|un1 rfl<|un1 (v:=(I (s_.length:Int))) rfl<|un1 (v:=(B (decide (pos_1<(s_.length:Int))))) rfl<|dnil ?_
     refine Sv.cnd rfl h (fun h=>?_) fun h=>?_
     ·refine srg<|un1 rfl<|un1 rfl ?_
      obtain ⟨r_4,hx4,h⟩:=bnd h
      refine un1 (v:=(S r_4)) (s_slStr rfl rfl rfl hx4) ?_
      obtain ⟨r_5,hr4,h⟩:=bnd h
      refine un<|ac_gen (bs:=[0,1]) («as»:=[(.c (.ref 0 2 0 0)),(S r_4)]) (h2:=_) (h1:=(upd (upd e0 0 (some (.bld 90 zb_1 1 b_1.length))) 1 (bufB zb_1 5 b_1))) (Z1p (z:=zb_1) (l:=b_1) hzb_1 hr4) rfl (.cons (.c (.ref rfl (by decide))) (.cons (avAs_free rfl) .nil)) (hsub_refl _) (.cons rfl (.cons rfl (.nil _))) hcs (by decide) (by decide) (.cons (.c (.ref rfl (by decide))) (.cons (avAs_free rfl) .nil)) (.buf (by decide) rfl (.box (by decide) rfl (.bld rfl (by decide)) .nil)) ?_
      rintro _ _ _ hn ⟨z_3,hz_3,rfl,rfl,rfl⟩
      refine ⟨.inl rfl,(upd (upd (rem [0,1] _) 0 (some (.bld 90 z_3 2 r_5.length))) 2 (bufB z_3 5 r_5)),fun hbd=>(m3_cons (m3_buf rfl) (m3_cons (m3_box rfl rfl) (m3_rem (in_cons (by decide) (in_cons (by decide) (in_nil _))) (.cons (by decide) (.cons (by decide) .nil)) hbd))),(.tup [(I (r_4.length:Int)),(.c (.val .nilIface))]),3,(by cases z_3 <;> rfl),rfl,?_⟩
      refine dnil ?_
      exact Sv.weak (wcn [0,2] rfl (.cr rfl rfl rfl .nil) (.buf (by decide) rfl (.box (by decide) rfl (.bld rfl (by decide)) .nil))) (Za4 hz_3 h)
     ·refine Sv.skip ?_
      exact Sv.weak (wcn [0,1] rfl (.cr rfl rfl rfl .nil) (.buf (by decide) rfl (.box (by decide) rfl (.bld rfl (by decide)) .nil))) (Za4 hzb_1 h)
  ·refine Sv.skip<|ssr<|un1 rfl ?_
   cases h
def a101:AFunc:=⟨1,[(.tmp 2)],(sr [(oP 2 (.mov (kI 0)))]
 (sr [(mV 3 0),(oP 4 (.bslice 1 [(.val (.int .u8 0))] 1 [(0,(.tmp 3))])),(oP 5 (.ofBytes (.tmp 4))),(oP 6 (.call 102 [(.tmp 5)])),(oP 7 (.call 43 [(.const (.c (.str [48,49,50,51,52,53,54,55,56,57,97,98,99,100,101,102]))),(.tmp 6)])),(mV 2 7)]
 .ret))⟩
theorem c101:compFunc Tryz.prog 101=some a101:=by kernel_rfl
def Zf5 (r:Int):AV→Heap→Nat→Prop:=fun v h' n' => v=(I r)∧(h' = e0)∧n' = 0
noncomputable def Z1x (c_:Int):Option Int :=
 (Z4w (byts [c_])).bind fun r_ =>
 (Z6x [48,49,50,51,52,53,54,55,56,57,97,98,99,100,101,102] r_).bind fun r_1 =>
 some r_1
theorem Z5u {mL:Int}{c_:Int}{r:Int}(h:Z1x c_=some r):CPure Tryz.prog (GG mL) 101 [(.c (.val (.int .u8 c_)))] (I r):=by
 refine acalls_of_sv hmix c101 (R:=Zf5 r) ?_
 unfold Z1x at h
 refine ssr<|un1 rfl<|dnil<|ssr<|un1 rfl<|un<|a2v (v:=(lstV false 0 1 [c_].length)) (h' := upd _ 0 (lstB false 1 ([c_].map (eK .u8)))) (n' := 1) rfl rfl hcs<|un1 (v:=(S (byts [c_]))) (s_ofBytes (xs:=[c_]) rfl (slc_lst rfl (List.length_map _).symm (map_nil_of hcs))) ?_
 obtain ⟨r_,hr1,h⟩:=bnd h
 refine un<|ac_pure (Zf4 hr1) rfl rfl rfl ?_
 obtain ⟨r_1,hr2,h⟩:=bnd h
 refine un<|ac_pure (Z9k hr2) rfl rfl rfl<|un1 rfl<|dnil<|Sv.ret ?_
 exact rt0 h rfl rfl ⟨rfl,rfl,rfl⟩
def a74_c0:ACode:=(.cond (.tmp 60) (sr [(oP 2 (.mov (.const (.c (.ro true 2 []))))),(oP 3 (.mov kF))]
 .ret) .skip)
def a74_c2:ACode:=(.seq (.drawn (.fin [((mV 61 4),(0,0)),((mV 62 5),(0,1)),((mV 63 0),(0,2)),((mV 64 6),(0,3)),((oP 65 (.bin .add (.tmp 64) (kI 1))),(0,4)),((oP 66 (.idxS (.tmp 63) (.tmp 65))),(0,5)),((mV 69 5),(0,8)),((mV 70 0),(0,9)),((mV 71 6),(0,10)),((oP 72 (.bin .add (.tmp 71) (kI 2))),(0,11)),((oP 73 (.idxS (.tmp 70) (.tmp 72))),(0,12)),((oP 67 (.callv (.tmp 62) [(.tmp 66)])),(2,6)),((oP 68 (.bin .mul (kI 16) (.tmp 67))),(0,7)),((oP 74 (.callv (.tmp 69) [(.tmp 73)])),(2,13)),((oP 75 (.bin .add (.tmp 68) (.tmp 74))),(0,14)),((oP 76 (.conv .u8 (.tmp 75))),(0,15)),((oP 77 (.build [(.val (.int .u8 0)),(.val (.bool false))] [(0,(1,(.tmp 76))),(1,(1,kT))])),(0,16)),((oP 78 (.bslice 2 [(.val (.int .u8 0)),(.val (.bool false))] 1 [(0,(.tmp 77))])),(2,17)),((oP 79 (.app 2 2 (.tmp 61) (.tmp 78))),(2,18)),((mV 4 79),(0,19))]))
 (.region [(mV 80 6),(oP 81 (.bin .add (.tmp 80) (kI 2))),(mV 6 81)]))
def a74_c1:ACode:=(.region [(mV 11 6),(oP 12 (.bin .add (.tmp 11) (kI 1))),(mV 6 12)])
def a74_c3:ACode:=(.seq (sr [(mV 7 6),(mV 8 0),(oP 9 (.lenS (.tmp 8))),(oP 10 (.bin .lss (.tmp 7) (.tmp 9)))]
 (.cond (.tmp 10) .skip (.exit 0)))
 (.seq (.block 1 (.seq (sr [(mV 13 0),(mV 14 6),(oP 15 (.idxS (.tmp 13) (.tmp 14))),(oP 16 (.bin .neq (.tmp 15) (.const (.c (.val (.int .u8 37))))))]
 (.cond (.tmp 16) (sr [(mV 17 4),(mV 18 0),(mV 19 6),(oP 20 (.idxS (.tmp 18) (.tmp 19))),(oP 21 (.build [(.val (.int .u8 0)),(.val (.bool false))] [(0,(1,(.tmp 20))),(1,(1,kF))])),(oP 22 (.bslice 2 [(.val (.int .u8 0)),(.val (.bool false))] 1 [(0,(.tmp 21))])),(oP 23 (.app 2 2 (.tmp 17) (.tmp 22))),(mV 4 23)]
 (.exit 1)) .skip))
 (.seq (sr [(mV 24 6),(oP 25 (.bin .add (.tmp 24) (kI 2))),(mV 26 0),(oP 27 (.lenS (.tmp 26))),(oP 28 (.bin .geq (.tmp 25) (.tmp 27))),(mV 29 28),⟨(some 30),(.mov (.tmp 0)),(some (29,false))⟩,⟨(some 31),(.mov (.tmp 6)),(some (29,false))⟩,⟨(some 32),(.bin .add (.tmp 31) (kI 1)),(some (29,false))⟩,⟨(some 33),(.idxS (.tmp 30) (.tmp 32)),(some (29,false))⟩,⟨(some 34),(.bin .gtr (.tmp 33) (.const (.c (.val (.int .u8 127))))),(some (29,false))⟩,(oP 35 (.pick (.tmp 29) kT (.tmp 34))),(mV 36 35),⟨(some 37),(.mov (.tmp 0)),(some (36,false))⟩,⟨(some 38),(.mov (.tmp 6)),(some (36,false))⟩,⟨(some 39),(.bin .add (.tmp 38) (kI 2)),(some (36,false))⟩,⟨(some 40),(.idxS (.tmp 37) (.tmp 39)),(some (36,false))⟩,⟨(some 41),(.bin .gtr (.tmp 40) (.const (.c (.val (.int .u8 127))))),(some (36,false))⟩,(oP 42 (.pick (.tmp 36) kT (.tmp 41))),(mV 43 42),⟨(some 44),(.mov (.tmp 5)),(some (43,false))⟩,⟨(some 45),(.mov (.tmp 0)),(some (43,false))⟩,⟨(some 46),(.mov (.tmp 6)),(some (43,false))⟩,⟨(some 47),(.bin .add (.tmp 46) (kI 1)),(some (43,false))⟩,⟨(some 48),(.idxS (.tmp 45) (.tmp 47)),(some (43,false))⟩,⟨(some 49),(.callv (.tmp 44) [(.tmp 48)]),(some (43,false))⟩,⟨(some 50),(.bin .lss (.tmp 49) (kI 0)),(some (43,false))⟩,(oP 51 (.pick (.tmp 43) kT (.tmp 50))),(mV 52 51),⟨(some 53),(.mov (.tmp 5)),(some (52,false))⟩,⟨(some 54),(.mov (.tmp 0)),(some (52,false))⟩,⟨(some 55),(.mov (.tmp 6)),(some (52,false))⟩,⟨(some 56),(.bin .add (.tmp 55) (kI 2)),(some (52,false))⟩,⟨(some 57),(.idxS (.tmp 54) (.tmp 56)),(some (52,false))⟩,⟨(some 58),(.callv (.tmp 53) [(.tmp 57)]),(some (52,false))⟩,⟨(some 59),(.bin .lss (.tmp 58) (kI 0)),(some (52,false))⟩,(oP 60 (.pick (.tmp 52) kT (.tmp 59)))]
 a74_c0)
 a74_c2)))
 a74_c1))
def a74:AFunc:=⟨1,[(.tmp 2),(.tmp 3)],(sr [(oP 2 (.mov (.const (.c (.ro true 2 []))))),(oP 3 (.mov kF))]
 (sr [(oP 4 (.mov (.const (.c (.ro true 2 [])))))]
 (sr [(oP 5 (.mov (.const (.c (.fn (.func 101) [] [])))))]
 (.seq (sr [(oP 6 (.mov (kI 0)))]
 (.block 0 (.loop a74_c3)))
 (sr [(mV 82 4),(mV 2 82),(oP 3 (.mov kT))]
 .ret)))))⟩
theorem c74:compFunc Tryz.prog 74=some a74:=by kernel_rfl
def Z4x (r:((List Tunit)×Bool)):AV→Heap→Nat→Prop:=fun v h' n' => ∃ z0:Bool,(z0=true→r.1=[])∧v=(.tup [(lstV z0 0 2 r.1.length),(B r.2)])∧(h' = (upd e0 0 (lstB z0 2 (r.1.map e_Tunit))))∧n' = 1
abbrev Z72 (s_:Tx) (F_:(List Tunit)→Int→Option ((List Tunit)×Bool)) (o:((List Tunit)×Bool)) (R_:St→Prop):Prop:=∀(out:(List Tunit)) (k_:Int) (zout:Bool) (_:zout=true→out=[]),F_ out k_=some o→∀ s,Weak 0 s ⟨(ue [(6,(I k_)),(5,(.c (.fn (.func 101) [] []))),(4,(lstV zout 0 2 out.length)),(0,(S s_))]),(upd e0 0 (lstB zout 2 (out.map e_Tunit))),1⟩→R_ s
abbrev Z73 (F_:(List Tunit)→Option ((List Tunit)×Bool)) (o:((List Tunit)×Bool)) (R_:St→Prop):Prop:=∀(out1:(List Tunit)) (zout1:Bool) (_:zout1=true→out1=[]),F_ out1=some o→∀ s,Weak 0 s ⟨(upd e0 4 (some (lstV zout1 0 2 out1.length))),(upd e0 0 (lstB zout1 2 (out1.map e_Tunit))),1⟩→R_ s
noncomputable def Z3f (s_:Tx) (self:(List Tunit)→Int→Option ((List Tunit)×Bool)) (K0_:(List Tunit)→Option ((List Tunit)×Bool)) (out2:(List Tunit)) (k_1:Int):Option ((List Tunit)×Bool) :=
 self out2 (wi (k_1+1))
theorem Za5 {mL:Int}{Q:AExit→St→Prop}{s_:Tx}{self:(List Tunit)→Int→Option ((List Tunit)×Bool)}{K0_:(List Tunit)→Option ((List Tunit)×Bool)}{out2:(List Tunit)}{k_1:Int}{zout2:Bool}(hzout2:zout2=true→out2=[]) {o:((List Tunit)×Bool)}(h:Z3f s_ self K0_ out2 k_1=some o)
  (hself:Z72 s_ self o (Q .normal))
  (hK0:Z73 K0_ o (Q (.exit 0)))
  (hr:∀ s,Ends a74.results 0 (Z4x o) .ret s→Q .ret s) :
  Sv Tryz.prog (GG mL) 0 a74_c1 Q ⟨(ue [(6,(I k_1)),(5,(.c (.fn (.func 101) [] []))),(4,(lstV zout2 0 2 out2.length)),(0,(S s_))]),(upd e0 0 (lstB zout2 2 (out2.map e_Tunit))),1⟩:=by
 unfold Z3f at h
 refine srg<|un1 rfl<|un1 (v:=(I (wi (k_1+1)))) rfl<|un1 rfl<|dnil ?_
 exact hself out2 (wi (k_1+1)) zout2 hzout2 h _ (wcn [0] rfl (.cf rfl rfl (.cf rfl rfl (.cons rfl (.c (lsr rfl rfl)) (.cf rfl rfl .nil)))) (.row (by decide) rfl (fr_map fun _=>rfl) .nil))
abbrev Zf6 (mL:Int) (Q:AExit→St→Prop):AExit→St→Prop:=AThen (Sv Tryz.prog (GG mL) 0 a74_c1 Q) Q
abbrev Za6 (mL:Int) (Q:AExit→St→Prop):AExit→St→Prop:=ABlock 1 (Zf6 mL Q)
abbrev Zf7 (mL:Int) (Q:AExit→St→Prop):AExit→St→Prop:=AThen (Sv Tryz.prog (GG mL) 0 a74_c2 (Za6 mL Q)) (Za6 mL Q)
noncomputable def Z15 (s_:Tx) (k_:Int) (self:(List Tunit)→Int→Option ((List Tunit)×Bool)) (K0_:(List Tunit)→Option ((List Tunit)×Bool)) (out3:(List Tunit)) (v60:Bool):Option ((List Tunit)×Bool) :=
 if v60 then
  some (([]:List Tunit),false)
 else
  (at? s_ (wi (k_+1))).bind fun c_2 =>
  (at? s_ (wi (k_+2))).bind fun c_3 =>
  (Z1x (c_2.toNat:Int)).bind fun r_1 =>
  (Z1x (c_3.toNat:Int)).bind fun r_2 =>
  (app? 2 out3 [(⟨(wr .u8 (wi ((wi (16 * r_1))+r_2))),true⟩:Tunit)]).bind fun r_3 =>
  Z3f s_ self K0_ r_3 (wi (k_+2))
theorem Z4y {mL:Int}{Q:AExit→St→Prop}{s_:Tx}{k_:Int}{self:(List Tunit)→Int→Option ((List Tunit)×Bool)}{K0_:(List Tunit)→Option ((List Tunit)×Bool)}{out3:(List Tunit)}{v60:Bool}{zout3:Bool}(hzout3:zout3=true→out3=[]) {o:((List Tunit)×Bool)}(h:Z15 s_ k_ self K0_ out3 v60=some o)
  (hself:Z72 s_ self o (Q .normal))
  (hK0:Z73 K0_ o (Q (.exit 0)))
  (hr:∀ s,Ends a74.results 0 (Z4x o) .ret s→Q .ret s) :
  Sv Tryz.prog (GG mL) 0 a74_c0 (Zf7 mL Q) ⟨(ue [(60,(B v60)),(6,(I k_)),(5,(.c (.fn (.func 101) [] []))),(4,(lstV zout3 0 2 out3.length)),(0,(S s_))]),(upd e0 0 (lstB zout3 2 (out3.map e_Tunit))),1⟩:=by
 unfold Z15 at h
 refine Sv.cnd rfl h (fun h=>?_) fun h=>?_
 ·refine ssr<|un1 rfl<|un1 rfl<|dnil<|Sv.ret ?_
  replace h:=Option.some.inj h
  subst h
  exact hr _ ⟨_,.refl _,_,rfl,⟨upd e0 0 (some (.tup [(lstV true 0 2 ([]:List Tunit).length),(B false)])),(upd e0 0 (lstB true 2 (([]:List Tunit).map e_Tunit))),1⟩,(.tup [(lstV true 0 2 ([]:List Tunit).length),(B false)]),weak_canon2 [1000] [0] (by decide) (by decide) nlz (.cons (by decide) .nil) (.cons rfl (avAs_tup (.cons (.c (.same rfl)) (.cons (avAs_free rfl) .nil))) .nil) (.non (by decide) .nil),rfl,true,(fun _=>rfl),rfl,rfl,rfl⟩
 ·refine Sv.skip<|Sv.seq<|Sv.drawn<|un1 rfl<|un1 rfl<|un1 rfl<|un1 rfl<|un1 (v:=(I (wi (k_+1)))) rfl ?_
  obtain ⟨c_2,hx3,h⟩:=bnd h
  refine un1 (v:=(.c (.val (.int .u8 (c_2.toNat:Int))))) (s_idxS rfl rfl hx3)<|un1 rfl<|un1 rfl<|un1 rfl<|un1 (v:=(I (wi (k_+2)))) rfl ?_
  obtain ⟨c_3,hx4,h⟩:=bnd h
  refine un1 (v:=(.c (.val (.int .u8 (c_3.toNat:Int))))) (s_idxS rfl rfl hx4) ?_
  obtain ⟨r_1,hr2,h⟩:=bnd h
  refine un<|acv_gen (bs:=[]) («as»:=[(.c (.val (.int .u8 (c_2.toNat:Int))))]) (h2:=_) (h1:=e0) rfl (by kernel_rfl) (Z5u hr2) rfl (.cons (avAs_free rfl) .nil) (hsub_refl _) (.nil _) (fun _=>rfl) (by decide) (by decide) (.cons (avAs_free rfl) .nil) .nil ?_
  rintro _ _ _ hn ⟨rfl,rfl,rfl⟩
  refine ⟨.inl rfl,(rem [] _),fun hbd=>(m3_rem (in_nil _) (.nil) hbd),(I r_1),1,rfl,rfl,?_⟩
  refine un1 (v:=(I (wi (16 * r_1)))) rfl ?_
  obtain ⟨r_2,hr3,h⟩:=bnd h
  refine un<|acv_gen (bs:=[]) («as»:=[(.c (.val (.int .u8 (c_3.toNat:Int))))]) (h2:=_) (h1:=e0) rfl (by kernel_rfl) (Z5u hr3) rfl (.cons (avAs_free rfl) .nil) (hsub_refl _) (.nil _) (fun _=>rfl) (by decide) (by decide) (.cons (avAs_free rfl) .nil) .nil ?_
  rintro _ _ _ hn ⟨rfl,rfl,rfl⟩
  refine ⟨.inl rfl,(rem [] _),fun hbd=>(m3_rem (in_nil _) (.nil) hbd),(I r_2),1,rfl,rfl,?_⟩
  refine un1 (v:=(I (wi ((wi (16 * r_1))+r_2)))) rfl<|un1 (v:=(.c (.val (.int .u8 (wr .u8 (wi ((wi (16 * r_1))+r_2))))))) rfl<|un1 (v:=(.agg [.val (.int .u8 (wr .u8 (wi ((wi (16 * r_1))+r_2)))),cB true])) rfl<|un<|a2v (v:=(lstV false 1 2 [(⟨(wr .u8 (wi ((wi (16 * r_1))+r_2))),true⟩:Tunit)].length)) (h' := upd _ 1 (lstB false 2 ([(⟨(wr .u8 (wi ((wi (16 * r_1))+r_2))),true⟩:Tunit)].map e_Tunit))) (n' := 2) rfl rfl hcs ?_
  obtain ⟨r_3,hr4,h⟩:=bnd h
  have hz2:(zout3&&[(⟨(wr .u8 (wi ((wi (16 * r_1))+r_2))),true⟩:Tunit)].isEmpty)=true→r_3=[]:=app_nil (z:=zout3) (ys:=[(⟨(wr .u8 (wi ((wi (16 * r_1))+r_2))),true⟩:Tunit)]) hzout3 hr4
  refine un<|a2v rfl (s_app (xs:=out3) (ys:=[(⟨(wr .u8 (wi ((wi (16 * r_1))+r_2))),true⟩:Tunit)]) (e:=e_Tunit) (z:=zout3) (b:=0) rfl rfl hzout3 rfl rfl (slc_lst rfl (List.length_map _).symm (map_nil_of hcs)) hr4) hcs<|un1 rfl<|dnil<|srg<|un1 rfl<|un1 (v:=(I (wi (k_+2)))) rfl<|un1 rfl<|dnil ?_
  exact Sv.weak (wcn [2] rfl (.cf rfl rfl (.cf rfl rfl (.cons rfl (.c (lsr rfl rfl)) (.cf rfl rfl .nil)))) (.row (by decide) rfl (fr_map fun _=>rfl) .nil)) (Za5 hz2 h hself hK0 hr)
abbrev Za7 (s_:Tx) (F_:Nat→(List Tunit)→Int→Option ((List Tunit)×Bool)) (o:((List Tunit)×Bool)):Nat→St→Prop:=fun k s=>∃(out:(List Tunit)),∃(k_:Int),∃(zout:Bool),(zout=true→out=[])∧F_ k out k_=some o∧s=⟨(ue [(6,(I k_)),(5,(.c (.fn (.func 101) [] []))),(4,(lstV zout 0 2 out.length)),(0,(S s_))]),(upd e0 0 (lstB zout 2 (out.map e_Tunit))),1⟩
noncomputable def Z3 (s_:Tx) (K0_:(List Tunit)→Option ((List Tunit)×Bool)):Nat→(List Tunit)→Int→Option ((List Tunit)×Bool)
 | 0,_,_=>none
 | k+1,out,k_ =>
  if decide (k_<(s_.length:Int)) then
   (at? s_ k_).bind fun c_ =>
   if (!decide ((c_.toNat:Int)=37)) then
    (at? s_ k_).bind fun c_1 =>
    (app? 2 out [(⟨(c_1.toNat:Int),false⟩:Tunit)]).bind fun r_ =>
    Z3f s_ (Z3 s_ K0_ k) K0_ r_ k_
   else
    if decide ((s_.length:Int)≤(wi (k_+2))) then
     Z15 s_ k_ (Z3 s_ K0_ k) K0_ out true
    else
     (at? s_ (wi (k_+1))).bind fun c_4 =>
     if decide (127<(c_4.toNat:Int)) then
      Z15 s_ k_ (Z3 s_ K0_ k) K0_ out true
     else
      (at? s_ (wi (k_+2))).bind fun c_5 =>
      if decide (127<(c_5.toNat:Int)) then
       Z15 s_ k_ (Z3 s_ K0_ k) K0_ out true
      else
       (at? s_ (wi (k_+1))).bind fun c_6 =>
       (Z1x (c_6.toNat:Int)).bind fun r_4 =>
       if decide (r_4<0) then
        Z15 s_ k_ (Z3 s_ K0_ k) K0_ out true
       else
        (at? s_ (wi (k_+2))).bind fun c_7 =>
        (Z1x (c_7.toNat:Int)).bind fun r_5 =>
        Z15 s_ k_ (Z3 s_ K0_ k) K0_ out (decide (r_5<0))
  else
   K0_ out
theorem Zf8 {mL:Int}{Q:AExit→St→Prop}{s_:Tx}{K0_:(List Tunit)→Option ((List Tunit)×Bool)}{k:Nat}{out:(List Tunit)}{k_:Int}{zout:Bool}(hzout:zout=true→out=[]) {o:((List Tunit)×Bool)}(h:Z3 s_ K0_ k out k_=some o)
  (hK0:Z73 K0_ o (Q (.exit 0)))
  (hr:∀ s,Ends a74.results 0 (Z4x o) .ret s→Q .ret s) :
  Sv Tryz.prog (GG mL) 0 (.loop a74_c3) Q ⟨(ue [(6,(I k_)),(5,(.c (.fn (.func 101) [] []))),(4,(lstV zout 0 2 out.length)),(0,(S s_))]),(upd e0 0 (lstB zout 2 (out.map e_Tunit))),1⟩:=by
 refine Sv.loop (I:=Za7 s_ (Z3 s_ K0_) o) (fun k s hI=>?_) ⟨out,k_,zout,hzout,h,rfl⟩
 clear h
 clear hzout zout k_ out
 obtain ⟨out,k_,zout,hzout,h,rfl⟩:=hI
 cases k with
 | zero=>cases h
 | succ k =>
 rw [Z3] at h
 have hself:Z72 s_ (Z3 s_ K0_ k) o (rnd 0 (Za7 s_ (Z3 s_ K0_) o) k Q):=fun out k_ zout hzout h s hw=>⟨_,k,hw,Nat.lt_succ_self k,out,k_,zout,hzout,h,rfl⟩
 refine Sv.seq<|ssr<|un1 rfl<|un1 rfl<|un1 (v:=(I (s_.length:Int))) rfl<|un1 (v:=(B (decide (k_<(s_.length:Int))))) rfl<|dnil ?_
 refine Sv.cnd rfl h (fun h=>?_) fun h=>?_
 ·refine Sv.skip<|Sv.seq<|Sv.block<|Sv.seq<|ssr<|un1 rfl<|un1 rfl ?_
  obtain ⟨c_,hx1,h⟩:=bnd h
  refine un1 (v:=(.c (.val (.int .u8 (c_.toNat:Int))))) (s_idxS rfl rfl hx1)<|un1 (v:=(B (!decide ((c_.toNat:Int)=37)))) rfl<|dnil ?_
  refine Sv.cnd rfl h (fun h=>?_) fun h=>?_
  ·refine ssr<|un1 rfl<|un1 rfl<|un1 rfl ?_
   obtain ⟨c_1,hx2,h⟩:=bnd h
   refine un1 (v:=(.c (.val (.int .u8 (c_1.toNat:Int))))) (s_idxS rfl rfl hx2)<|un1 (v:=(.agg [.val (.int .u8 (c_1.toNat:Int)),cB false])) rfl<|un<|a2v (v:=(lstV false 1 2 [(⟨(c_1.toNat:Int),false⟩:Tunit)].length)) (h' := upd _ 1 (lstB false 2 ([(⟨(c_1.toNat:Int),false⟩:Tunit)].map e_Tunit))) (n' := 2) rfl rfl hcs ?_
   obtain ⟨r_,hr1,h⟩:=bnd h
   have hz1:(zout&&[(⟨(c_1.toNat:Int),false⟩:Tunit)].isEmpty)=true→r_=[]:=app_nil (z:=zout) (ys:=[(⟨(c_1.toNat:Int),false⟩:Tunit)]) hzout hr1
   refine un<|a2v rfl (s_app (xs:=out) (ys:=[(⟨(c_1.toNat:Int),false⟩:Tunit)]) (e:=e_Tunit) (z:=zout) (b:=0) rfl rfl hzout rfl rfl (slc_lst rfl (List.length_map _).symm (map_nil_of hcs)) hr1) hcs<|un1 rfl<|dnil<|Sv.exit ?_
   exact Sv.weak (wcn [2] rfl (.cf rfl rfl (.cf rfl rfl (.cons rfl (.c (lsr rfl rfl)) (.cf rfl rfl .nil)))) (.row (by decide) rfl (fr_map fun _=>rfl) .nil)) (Za5 hz1 h hself hK0 hr)
  ·refine Sv.skip<|Sv.seq<|ssr<|un1 rfl<|un1 (v:=(I (wi (k_+2)))) rfl<|un1 rfl<|un1 (v:=(I (s_.length:Int))) rfl<|un1 (v:=(B (decide ((s_.length:Int)≤(wi (k_+2)))))) rfl<|un1 rfl ?_
   refine spl h (fun h=>?_) fun h=>?_
   ·repeat (first | refine gu rfl ?_ | refine gs rfl rfl ?_)
    refine un1 (v:=(B true)) rfl<|un1 rfl ?_
    repeat (first | refine gu rfl ?_ | refine gs rfl rfl ?_)
    refine un1 (v:=(B true)) rfl<|un1 rfl ?_
    repeat (first | refine gu rfl ?_ | refine gs rfl rfl ?_)
    refine un1 (v:=(B true)) rfl<|un1 rfl ?_
    repeat (first | refine gu rfl ?_ | refine gs rfl rfl ?_)
    refine un1 (v:=(B true)) rfl<|dnil ?_
    exact Sv.weak (wcn [0] rfl (.cf rfl rfl (.cf rfl rfl (.cf rfl rfl (.cons rfl (.c (lsr rfl rfl)) (.cf rfl rfl .nil))))) (.row (by decide) rfl (fr_map fun _=>rfl) .nil)) (Z4y hzout h hself hK0 hr)
   ·refine gt rfl<|a1 rfl<|gt rfl<|a1 rfl<|gt rfl<|a1 (v:=(I (wi (k_+1)))) rfl ?_
    obtain ⟨c_4,hx5,h⟩:=bnd h
    refine gt rfl<|a1 (v:=(.c (.val (.int .u8 (c_4.toNat:Int))))) (s_idxS rfl rfl hx5)<|gt rfl<|a1 (v:=(B (decide (127<(c_4.toNat:Int))))) rfl<|un1 (v:=(B (decide (127<(c_4.toNat:Int))))) rfl<|un1 rfl ?_
    refine spl h (fun h=>?_) fun h=>?_
    ·repeat (first | refine gu rfl ?_ | refine gs rfl rfl ?_)
     refine un1 (v:=(B true)) rfl<|un1 rfl ?_
     repeat (first | refine gu rfl ?_ | refine gs rfl rfl ?_)
     refine un1 (v:=(B true)) rfl<|un1 rfl ?_
     repeat (first | refine gu rfl ?_ | refine gs rfl rfl ?_)
     refine un1 (v:=(B true)) rfl<|dnil ?_
     exact Sv.weak (wcn [0] rfl (.cf rfl rfl (.cf rfl rfl (.cf rfl rfl (.cons rfl (.c (lsr rfl rfl)) (.cf rfl rfl .nil))))) (.row (by decide) rfl (fr_map fun _=>rfl) .nil)) (Z4y hzout h hself hK0 hr)
    ·refine gt rfl<|a1 rfl<|gt rfl<|a1 rfl<|gt rfl<|a1 (v:=(I (wi (k_+2)))) rfl ?_
     obtain ⟨c_5,hx6,h⟩:=bnd h
     refine gt rfl<|a1 (v:=(.c (.val (.int .u8 (c_5.toNat:Int))))) (s_idxS rfl rfl hx6)<|gt rfl<|a1 (v:=(B (decide (127<(c_5.toNat:Int))))) rfl<|un1 (v:=(B (decide (127<(c_5.toNat:Int))))) rfl<|un1 rfl ?_
     refine spl h (fun h=>?_) fun h=>?_
     ·repeat (first | refine gu rfl ?_ | refine gs rfl rfl ?_)
      refine un1 (v:=(B true)) rfl<|un1 rfl ?_
      repeat (first | refine gu rfl ?_ | refine gs rfl rfl ?_)
      refine un1 (v:=(B true)) rfl<|dnil ?_
      exact Sv.weak (wcn [0] rfl (.cf rfl rfl (.cf rfl rfl (.cf rfl rfl (.cons rfl (.c (lsr rfl rfl)) (.cf rfl rfl .nil))))) (.row (by decide) rfl (fr_map fun _=>rfl) .nil)) (Z4y hzout h hself hK0 hr)
     ·refine gt rfl<|a1 rfl<|gt rfl<|a1 rfl<|gt rfl<|a1 rfl<|gt rfl<|a1 (v:=(I (wi (k_+1)))) rfl ?_
      obtain ⟨c_6,hx7,h⟩:=bnd h
      refine gt rfl<|a1 (v:=(.c (.val (.int .u8 (c_6.toNat:Int))))) (s_idxS rfl rfl hx7) ?_
      obtain ⟨r_4,hr5,h⟩:=bnd h
      refine gt rfl<|acv_gen (bs:=[]) («as»:=[(.c (.val (.int .u8 (c_6.toNat:Int))))]) (h2:=_) (h1:=e0) rfl (by kernel_rfl) (Z5u hr5) rfl (.cons (avAs_free rfl) .nil) (hsub_refl _) (.nil _) (fun _=>rfl) (by decide) (by decide) (.cons (avAs_free rfl) .nil) .nil ?_
      rintro _ _ _ hn ⟨rfl,rfl,rfl⟩
      refine ⟨.inl rfl,(rem [] _),fun hbd=>(m3_rem (in_nil _) (.nil) hbd),(I r_4),1,rfl,rfl,?_⟩
      refine gt rfl<|a1 (v:=(B (decide (r_4<0)))) rfl<|un1 (v:=(B (decide (r_4<0)))) rfl<|un1 rfl ?_
      refine spl h (fun h=>?_) fun h=>?_
      ·repeat (first | refine gu rfl ?_ | refine gs rfl rfl ?_)
       refine un1 (v:=(B true)) rfl<|dnil ?_
       exact Sv.weak (wcn [0] rfl (.cf rfl rfl (.cf rfl rfl (.cf rfl rfl (.cons rfl (.c (lsr rfl rfl)) (.cf rfl rfl .nil))))) (.row (by decide) rfl (fr_map fun _=>rfl) .nil)) (Z4y hzout h hself hK0 hr)
      ·refine gt rfl<|a1 rfl<|gt rfl<|a1 rfl<|gt rfl<|a1 rfl<|gt rfl<|a1 (v:=(I (wi (k_+2)))) rfl ?_
       obtain ⟨c_7,hx8,h⟩:=bnd h
       refine gt rfl<|a1 (v:=(.c (.val (.int .u8 (c_7.toNat:Int))))) (s_idxS rfl rfl hx8) ?_
       obtain ⟨r_5,hr6,h⟩:=bnd h
       refine gt rfl<|acv_gen (bs:=[]) («as»:=[(.c (.val (.int .u8 (c_7.toNat:Int))))]) (h2:=_) (h1:=e0) rfl (by kernel_rfl) (Z5u hr6) rfl (.cons (avAs_free rfl) .nil) (hsub_refl _) (.nil _) (fun _=>rfl) (by decide) (by decide) (.cons (avAs_free rfl) .nil) .nil ?_
       rintro _ _ _ hn ⟨rfl,rfl,rfl⟩
       refine ⟨.inl rfl,(rem [] _),fun hbd=>(m3_rem (in_nil _) (.nil) hbd),(I r_5),1,rfl,rfl,?_⟩
       refine gt rfl<|a1 (v:=(B (decide (r_5<0)))) rfl<|un1 (v:=(B (decide (r_5<0)))) rfl<|dnil ?_
       exact Sv.weak (wcn [0] rfl (.cf rfl rfl (.cf rfl rfl (.cf rfl rfl (.cons rfl (.c (lsr rfl rfl)) (.cf rfl rfl .nil))))) (.row (by decide) rfl (fr_map fun _=>rfl) .nil)) (Z4y hzout h hself hK0 hr)
 ·refine Sv.exit ?_
  exact hK0 out zout hzout h _ (wcn [0] rfl (.cons rfl (.c (lsr rfl rfl)) .nil) (.row (by decide) rfl (fr_map fun _=>rfl) .nil))
noncomputable def Z3g (s_:Tx):Option ((List Tunit)×Bool) :=
 lim fun kk=>Z3 s_ (fun (out1:(List Tunit)) => 
   some (out1,true)) kk ([]:List Tunit) 0
theorem Za8 {mL:Int}{s_:Tx}{r:((List Tunit)×Bool)}(h:Z3g s_=some r):ACalls Tryz.prog (GG mL) 74 [(S s_)] e0 0 (Z4x r):=by
 refine acalls_of_sv hmix c74 (R:=Z4x r) ?_
 unfold Z3g at h
 refine ssr<|un1 rfl<|un1 rfl<|dnil<|ssr<|un1 rfl<|dnil<|ssr<|un1 rfl<|dnil<|Sv.seq<|ssr<|un1 rfl<|dnil<|Sv.block ?_
 obtain ⟨kk,h⟩:=lim_some h
 refine Sv.weak (wcn [1000] rfl (.cf rfl rfl (.cf rfl rfl (.cons rfl (.c (.same rfl)) (.cf rfl rfl .nil)))) (.non (by decide) .nil)) (Zf8 (fun _=>rfl) h ?_ (fun s hs=>hs))
 ·intro out1 zout1 hzout1 h _ hw1
  refine Sv.weak hw1<|ssr<|un1 rfl<|un1 rfl<|un1 rfl<|dnil<|Sv.ret ?_
  replace h:=Option.some.inj h
  subst h
  exact ⟨_,.refl _,_,rfl,⟨upd e0 0 (some (.tup [(lstV zout1 0 2 out1.length),(B true)])),(upd e0 0 (lstB zout1 2 (out1.map e_Tunit))),1⟩,(.tup [(lstV zout1 0 2 out1.length),(B true)]),weak_canon2 [0] [0] (by decide) (by decide) nlz (.cons (by decide) .nil) (.cons rfl (avAs_tup (.cons (.c (lsr rfl rfl)) (.cons (avAs_free rfl) .nil))) .nil) (.row (by decide) rfl (fr_map fun _=>rfl) .nil),rfl,zout1,hzout1,rfl,rfl,rfl⟩
def a75:AFunc:=⟨1,[(.tmp 2)],(sr [(oP 2 (.mov kF))]
 (sr [(mV 3 0),(oP 4 (.bslice 1 [(.val (.int .u8 0))] 1 [(0,(.tmp 3))])),(oP 5 (.ofBytes (.tmp 4))),(oP 6 (.call 18 [(.const (.c (.str [97,98,99,100,101,102,103,104,105,106,107,108,109,110,111,112,113,114,115,116,117,118,119,120,121,122,65,66,67,68,69,70,71,72,73,74,75,76,77,78,79,80,81,82,83,84,85,86,87,88,89,90,48,49,50,51,52,53,54,55,56,57,45,46,95,126]))),(.tmp 5)])),(mV 7 6),⟨(some 8),(.mov (.tmp 0)),(some (7,true))⟩,⟨(some 9),(.bin .lss (.tmp 8) (.const (.c (.val (.int .u8 128))))),(some (7,true))⟩,(oP 10 (.pick (.tmp 7) (.tmp 9) kF)),(mV 2 10)]
 .ret))⟩
theorem c75:compFunc Tryz.prog 75=some a75:=by kernel_rfl
def Zf9 (r:Bool):AV→Heap→Nat→Prop:=fun v h' n' => v=(B r)∧(h' = e0)∧n' = 0
noncomputable def Z3h (c_:Int):Option Bool :=
 (Z2j [97,98,99,100,101,102,103,104,105,106,107,108,109,110,111,112,113,114,115,116,117,118,119,120,121,122,65,66,67,68,69,70,71,72,73,74,75,76,77,78,79,80,81,82,83,84,85,86,87,88,89,90,48,49,50,51,52,53,54,55,56,57,45,46,95,126] (byts [c_])).bind fun r_ =>
 some (r_&&(decide (c_<128)))
theorem Za9 {mL:Int}{c_:Int}{r:Bool}(h:Z3h c_=some r):CPure Tryz.prog (GG mL) 75 [(.c (.val (.int .u8 c_)))] (B r):=by
 refine acalls_of_sv hmix c75 (R:=Zf9 r) ?_
 unfold Z3h at h
 refine ssr<|un1 rfl<|dnil<|ssr<|un1 rfl<|un<|a2v (v:=(lstV false 0 1 [c_].length)) (h' := upd _ 0 (lstB false 1 ([c_].map (eK .u8)))) (n' := 1) rfl rfl hcs<|un1 (v:=(S (byts [c_]))) (s_ofBytes (xs:=[c_]) rfl (slc_lst rfl (List.length_map _).symm (map_nil_of hcs))) ?_
 obtain ⟨r_,hr1,h⟩:=bnd h
 refine un<|ac_pure (Z4m hr1) rfl rfl rfl<|un1 rfl ?_
 refine gjoin 3 (d:=10) (v:=(B (r_&&(decide (c_<128))))) (fun X hX=>?_) ?_
 ·refine split2 (fun hc1=>?_) (fun hc1=>?_)
  ·refine gt rfl<|a1 rfl<|gt rfl<|a1 (v:=(B (decide (c_<128)))) rfl<|un1 (v:=(B (decide (c_<128)))) rfl<|dnil ?_
   exact hX _ (.putEq (by rw [hc1]; rfl) (.skp (.skp (.putEq (by rw [hc1]) (.refl _)) rfl) rfl))
  ·refine gs rfl rfl<|gs rfl rfl<|un1 (v:=(B false)) rfl<|dnil ?_
   exact hX _ (.putEq (by rw [hc1]; rfl) (.skp (.skp (.putEq (by rw [hc1]) (.refl _)) rfl) rfl))
 refine un1 rfl<|dnil<|Sv.ret ?_
 exact rt0 h rfl rfl ⟨rfl,rfl,rfl⟩
def a54_c0:ACode:=(.region [(oP 39 (.bin .add (.tmp 10) (kI 1))),(mV 10 39)])
def a54_c1:ACode:=(sr [(oP 11 (.bin .lss (.tmp 10) (.tmp 9)))]
 (.seq (.cond (.tmp 11) .skip (.exit 0))
 (.seq (.block 1 (sr [(oP 12 (.iaddr 1 (.tmp 8) (.tmp 10))),(oP 13 (.load false 1 (.tmp 12))),(mV 5 13)]
 (sr [(mV 14 5),(oP 15 (.call 75 [(.tmp 14)]))]
 (.cond (.tmp 15) (.region [(mV 16 3),(mV 17 5),(oP 18 (.bslice 1 [(.val (.int .u8 0))] 1 [(0,(.tmp 17))])),(oP 19 (.ofBytes (.tmp 18))),(oP 20 (.bin .add (.tmp 16) (.tmp 19))),(mV 3 20)]) (sr [(oP 6 (.mov (.const (.c (.str [48,49,50,51,52,53,54,55,56,57,65,66,67,68,69,70])))))]
 (.drawn (.fin [((mV 21 3),(0,0)),((mV 22 6),(0,1)),((mV 23 5),(0,2)),((oP 24 (.bin .quo (.tmp 23) (.const (.c (.val (.int .u8 16)))))),(0,3)),((mV 25 5),(0,4)),((oP 26 (.bin .quo (.tmp 25) (.const (.c (.val (.int .u8 16)))))),(0,5)),((oP 27 (.bin .add (.tmp 26) (.const (.c (.val (.int .u8 1)))))),(0,6)),((oP 28 (.slStr (.tmp 22) (some (.tmp 24)) (some (.tmp 27)))),(0,7)),((oP 29 (.bin .add (.const (.c (.str [37]))) (.tmp 28))),(0,8)),((mV 30 6),(0,9)),((mV 31 5),(0,10)),((oP 32 (.bin .rem (.tmp 31) (.const (.c (.val (.int .u8 16)))))),(0,11)),((mV 33 5),(0,12)),((oP 34 (.bin .rem (.tmp 33) (.const (.c (.val (.int .u8 16)))))),(0,13)),((oP 35 (.bin .add (.tmp 34) (.const (.c (.val (.int .u8 1)))))),(0,14)),((oP 36 (.slStr (.tmp 30) (some (.tmp 32)) (some (.tmp 35)))),(0,15)),((oP 37 (.bin .add (.tmp 29) (.tmp 36))),(0,16)),((oP 38 (.bin .add (.tmp 21) (.tmp 37))),(0,17)),((mV 3 38),(0,18))])))))))
 a54_c0)))
def a54:AFunc:=⟨1,[(.tmp 2)],(sr [(oP 2 (.mov (.const (.c (.str [])))))]
 (sr [(oP 3 (.mov (.const (.c (.str [])))))]
 (.seq (sr [(mV 7 0),(oP 8 (.toBytes (.tmp 7))),(oP 9 (.len (.tmp 8))),(oP 10 (.mov (kI 0)))]
 (.block 0 (.loop a54_c1)))
 (sr [(mV 40 3),(mV 2 40)]
 .ret))))⟩
theorem c54:compFunc Tryz.prog 54=some a54:=by kernel_rfl
def Z74 (r:Tx):AV→Heap→Nat→Prop:=fun v h' n' => v=(S r)∧(h' = e0)∧n' = 0
abbrev Zaa (s_:Tx) (F_:Tx→(List Int)→Int→Option Tx) (o:Tx) (R_:St→Prop):Prop:=∀(out:Tx) (v8:(List Int)) (v10:Int) (zv8:Bool) (_:zv8=true→v8=[]),F_ out v8 v10=some o→∀ s,Weak 0 s ⟨(ue [(10,(I v10)),(9,(I ((ints s_).length:Int))),(8,(lstV zv8 0 1 v8.length)),(3,(S out))]),(upd e0 0 (lstB zv8 1 (v8.map (eK .u8)))),1⟩→R_ s
abbrev Zab (F_:Tx→Option Tx) (o:Tx) (R_:St→Prop):Prop:=∀(out1:Tx),F_ out1=some o→∀ s,Weak 0 s ⟨(upd e0 3 (some (S out1))),e0,0⟩→R_ s
noncomputable def Z4z (v10:Int) (s_:Tx) (self:Tx→(List Int)→Int→Option Tx) (K0_:Tx→Option Tx) (out2:Tx) (v81:(List Int)):Option Tx :=
 self out2 v81 (wi (v10+1))
theorem Zac {mL:Int}{Q:AExit→St→Prop}{v10:Int}{s_:Tx}{self:Tx→(List Int)→Int→Option Tx}{K0_:Tx→Option Tx}{out2:Tx}{v81:(List Int)}{zv81:Bool}(hzv81:zv81=true→v81=[]) {o:Tx}(h:Z4z v10 s_ self K0_ out2 v81=some o)
  (hself:Zaa s_ self o (Q .normal))
  (hK0:Zab K0_ o (Q (.exit 0)))
  (hr:∀ s,Ends a54.results 0 (Z74 o) .ret s→Q .ret s) :
  Sv Tryz.prog (GG mL) 0 a54_c0 Q ⟨(ue [(10,(I v10)),(9,(I ((ints s_).length:Int))),(8,(lstV zv81 0 1 v81.length)),(3,(S out2))]),(upd e0 0 (lstB zv81 1 (v81.map (eK .u8)))),1⟩:=by
 unfold Z4z at h
 refine srg<|un1 (v:=(I (wi (v10+1)))) rfl<|un1 rfl<|dnil ?_
 exact hself out2 v81 (wi (v10+1)) zv81 hzv81 h _ (wcn [0] rfl (.cf rfl rfl (.cf rfl rfl (.cons rfl (.c (lsr rfl rfl)) (.cf rfl rfl .nil)))) (.row (by decide) rfl (fr_map fun _=>rfl) .nil))
abbrev Zad (s_:Tx) (F_:Nat→Tx→(List Int)→Int→Option Tx) (o:Tx):Nat→St→Prop:=fun k s=>∃(out:Tx),∃(v8:(List Int)),∃(v10:Int),∃(zv8:Bool),(zv8=true→v8=[])∧F_ k out v8 v10=some o∧s=⟨(ue [(10,(I v10)),(9,(I ((ints s_).length:Int))),(8,(lstV zv8 0 1 v8.length)),(3,(S out))]),(upd e0 0 (lstB zv8 1 (v8.map (eK .u8)))),1⟩
noncomputable def Zp (s_:Tx) (K0_:Tx→Option Tx):Nat→Tx→(List Int)→Int→Option Tx
 | 0,_,_,_=>none
 | k+1,out,v8,v10 =>
  if decide (v10<((ints s_).length:Int)) then
   (at? v8 v10).bind fun x_ =>
   (Z3h x_).bind fun r_ =>
   if r_ then
    (cat? out (byts [x_])).bind fun r_1 =>
    Z4z v10 s_ (Zp s_ K0_ k) K0_ r_1 v8
   else
    (sub? [48,49,50,51,52,53,54,55,56,57,65,66,67,68,69,70] (wr .u8 (x_.tdiv 16)) (wr .u8 ((wr .u8 (x_.tdiv 16))+1))).bind fun r_2 =>
    (cat? [37] r_2).bind fun r_3 =>
    (sub? [48,49,50,51,52,53,54,55,56,57,65,66,67,68,69,70] (x_.tmod 16) (wr .u8 ((x_.tmod 16)+1))).bind fun r_4 =>
    (cat? r_3 r_4).bind fun r_5 =>
    (cat? out r_5).bind fun r_6 =>
    Z4z v10 s_ (Zp s_ K0_ k) K0_ r_6 v8
  else
   K0_ out
theorem Zfa {mL:Int}{Q:AExit→St→Prop}{s_:Tx}{K0_:Tx→Option Tx}{k:Nat}{out:Tx}{v8:(List Int)}{v10:Int}{zv8:Bool}(hzv8:zv8=true→v8=[]) {o:Tx}(h:Zp s_ K0_ k out v8 v10=some o)
  (hK0:Zab K0_ o (Q (.exit 0)))
  (hr:∀ s,Ends a54.results 0 (Z74 o) .ret s→Q .ret s) :
  Sv Tryz.prog (GG mL) 0 (.loop a54_c1) Q ⟨(ue [(10,(I v10)),(9,(I ((ints s_).length:Int))),(8,(lstV zv8 0 1 v8.length)),(3,(S out))]),(upd e0 0 (lstB zv8 1 (v8.map (eK .u8)))),1⟩:=by
 refine Sv.loop (I:=Zad s_ (Zp s_ K0_) o) (fun k s hI=>?_) ⟨out,v8,v10,zv8,hzv8,h,rfl⟩
 clear h
 clear hzv8 zv8 v10 v8 out
 obtain ⟨out,v8,v10,zv8,hzv8,h,rfl⟩:=hI
 cases k with
 | zero=>cases h
 | succ k =>
 rw [Zp] at h
 have hself:Zaa s_ (Zp s_ K0_ k) o (rnd 0 (Zad s_ (Zp s_ K0_) o) k Q):=fun out v8 v10 zv8 hzv8 h s hw=>⟨_,k,hw,Nat.lt_succ_self k,out,v8,v10,zv8,hzv8,h,rfl⟩
 refine ssr<|un1 (v:=(B (decide (v10<((ints s_).length:Int))))) rfl<|dnil<|Sv.seq ?_
 refine Sv.cnd rfl h (fun h=>?_) fun h=>?_
 ·refine Sv.skip<|Sv.seq<|Sv.block<|ssr ?_
  obtain ⟨x_,hx1,h⟩:=bnd h
  refine un1 (v:=(.c (.ref 0 1 v10.toNat 0))) (s_iaddrL rfl rfl hzv8 hx1)<|un1 (v:=(.c (.val (.int .u8 x_)))) (s_loadL (z:=zv8) (e:=(eK .u8)) rfl rfl hzv8 hx1 rfl rfl)<|un1 rfl<|dnil<|ssr<|un1 rfl ?_
  obtain ⟨r_,hr1,h⟩:=bnd h
  refine un<|ac_pure (Za9 hr1) rfl rfl rfl<|dnil ?_
  refine Sv.cnd rfl h (fun h=>?_) fun h=>?_
  ·refine srg<|un1 rfl<|un1 rfl<|un<|a2v (v:=(lstV false 1 1 [x_].length)) (h' := upd _ 1 (lstB false 1 ([x_].map (eK .u8)))) (n' := 2) rfl rfl hcs<|un1 (v:=(S (byts [x_]))) (s_ofBytes (xs:=[x_]) rfl (slc_lst rfl (List.length_map _).symm (map_nil_of hcs))) ?_
   obtain ⟨r_1,hx2,h⟩:=bnd h
   refine un1 (v:=(S r_1)) (s_cat rfl rfl hx2)<|un1 rfl<|dnil ?_
   exact Sv.weak (wcn [0] rfl (.cf rfl rfl (.cf rfl rfl (.cons rfl (.c (lsr rfl rfl)) (.cf rfl rfl .nil)))) (.row (by decide) rfl (fr_map fun _=>rfl) .nil)) (Zac hzv8 h hself hK0 hr)
  ·refine ssr<|un1 rfl<|dnil<|Sv.drawn<|un1 rfl<|un1 rfl<|un1 rfl<|un1 (v:=(.c (.val (.int .u8 (wr .u8 (x_.tdiv 16)))))) rfl<|un1 rfl<|un1 (v:=(.c (.val (.int .u8 (wr .u8 (x_.tdiv 16)))))) rfl<|un1 (v:=(.c (.val (.int .u8 (wr .u8 ((wr .u8 (x_.tdiv 16))+1)))))) rfl ?_
   obtain ⟨r_2,hx3,h⟩:=bnd h
   refine un1 (v:=(S r_2)) (s_slStr rfl rfl rfl hx3) ?_
   obtain ⟨r_3,hx4,h⟩:=bnd h
   refine un1 (v:=(S r_3)) (s_cat rfl rfl hx4)<|un1 rfl<|un1 rfl<|un1 (v:=(.c (.val (.int .u8 (x_.tmod 16))))) rfl<|un1 rfl<|un1 (v:=(.c (.val (.int .u8 (x_.tmod 16))))) rfl<|un1 (v:=(.c (.val (.int .u8 (wr .u8 ((x_.tmod 16)+1)))))) rfl ?_
   obtain ⟨r_4,hx5,h⟩:=bnd h
   refine un1 (v:=(S r_4)) (s_slStr rfl rfl rfl hx5) ?_
   obtain ⟨r_5,hx6,h⟩:=bnd h
   refine un1 (v:=(S r_5)) (s_cat rfl rfl hx6) ?_
   obtain ⟨r_6,hx7,h⟩:=bnd h
   refine un1 (v:=(S r_6)) (s_cat rfl rfl hx7)<|un1 rfl<|dnil ?_
   exact Sv.weak (wcn [0] rfl (.cf rfl rfl (.cf rfl rfl (.cons rfl (.c (lsr rfl rfl)) (.cf rfl rfl .nil)))) (.row (by decide) rfl (fr_map fun _=>rfl) .nil)) (Zac hzv8 h hself hK0 hr)
 ·refine Sv.exit ?_
  exact hK0 out h _ (wcn [] rfl (.cf rfl rfl .nil) .nil)
noncomputable def Z2n (s_:Tx):Option Tx :=
 lim fun kk=>Zp s_ (fun (out1:Tx) => 
   some out1) kk [] (ints s_) 0
theorem Zae {mL:Int}{s_:Tx}{r:Tx}(h:Z2n s_=some r):CPure Tryz.prog (GG mL) 54 [(S s_)] (S r):=by
 refine acalls_of_sv hmix c54 (R:=Z74 r) ?_
 unfold Z2n at h
 refine ssr<|un1 rfl<|dnil<|ssr<|un1 rfl<|dnil<|Sv.seq<|ssr<|un1 rfl<|un<|a2v (v:=(lstV false 0 1 (ints s_).length)) (h' := upd _ 0 (lstB false 1 ((ints s_).map (eK .u8)))) (n' := 1) rfl (s_toBytes rfl) hcs<|un1 (v:=(I ((ints s_).length:Int))) (s_lenL rfl (len_nil_of hcs))<|un1 rfl<|dnil<|Sv.block ?_
 obtain ⟨kk,h⟩:=lim_some h
 refine Sv.weak (wcn [0] rfl (.cf rfl rfl (.cf rfl rfl (.cons rfl (.c (lsr rfl rfl)) (.cf rfl rfl .nil)))) (.row (by decide) rfl (fr_map fun _=>rfl) .nil)) (Zfa hcs h ?_ (fun s hs=>hs))
 ·intro out1 h _ hw1
  refine Sv.weak hw1<|ssr<|un1 rfl<|un1 rfl<|dnil<|Sv.ret ?_
  exact rt0 h rfl rfl ⟨rfl,rfl,rfl⟩
def a50_c0:ACode:=(.cond (.tmp 42) (.region [(mV 43 6),(mV 44 9),(oP 45 (.bin .add (.tmp 43) (.tmp 44))),(mV 6 45)]) (.region [(mV 46 6),(mV 47 9),(oP 48 (.call 54 [(.tmp 47)])),(oP 49 (.bin .add (.tmp 46) (.tmp 48))),(mV 6 49)]))
def a50_c1:ACode:=(.region [(oP 50 (.bin .add (.tmp 17) (kI 1))),(mV 17 50)])
def a50_c2:ACode:=(sr [(oP 18 (.bin .lss (.tmp 17) (.tmp 16)))]
 (.seq (.cond (.tmp 18) .skip (.exit 0))
 (.seq (.block 1 (sr [(oP 19 (.iaddr 2 (.tmp 15) (.tmp 17))),(oP 20 (.load true 2 (.tmp 19))),(oP 8 (.box (.const (.agg [(.val (.int .u8 0)),(.val (.bool false))])))),(oN (.store 2 (.tmp 8) (.tmp 20)))]
 (sr [(oP 21 (.faddr 0 (.tmp 8))),(oP 22 (.load false 1 (.tmp 21))),(oP 23 (.bslice 1 [(.val (.int .u8 0))] 1 [(0,(.tmp 22))])),(oP 24 (.ofBytes (.tmp 23))),(mV 9 24)]
 (sr [(oP 25 (.faddr 0 (.tmp 8))),(oP 26 (.load false 1 (.tmp 25))),(oP 27 (.call 75 [(.tmp 26)])),(oP 28 (.un .not (.tmp 27))),(mV 29 28),⟨(some 30),(.faddr 1 (.tmp 8)),(some (29,true))⟩,⟨(some 31),(.load false 1 (.tmp 30)),(some (29,true))⟩,⟨(some 32),(.un .not (.tmp 31)),(some (29,true))⟩,(oP 33 (.pick (.tmp 29) (.tmp 32) kF)),(mV 34 33),⟨(some 35),(.faddr 0 (.tmp 8)),(some (34,true))⟩,⟨(some 36),(.load false 1 (.tmp 35)),(some (34,true))⟩,⟨(some 37),(.bin .lss (.tmp 36) (.const (.c (.val (.int .u8 128))))),(some (34,true))⟩,(oP 38 (.pick (.tmp 34) (.tmp 37) kF)),(mV 39 38),⟨(some 40),(.mov (.tmp 9)),(some (39,true))⟩,⟨(some 41),(.call 18 [(.const (.c (.str [33,36,38,39,40,41,42,43,44,59,61,58,64,47,63]))),(.tmp 40)]),(some (39,true))⟩,(oP 42 (.pick (.tmp 39) (.tmp 41) kF))]
 a50_c0))))
 a50_c1)))
def a50:AFunc:=⟨1,[(.tmp 2),(.tmp 3)],(sr [(oP 2 (.mov (.const (.c (.str []))))),(oP 3 (.mov kF))]
 (sr [(mV 11 0),(oP 12 (.call 74 [(.tmp 11)])),(mV 10 12),(oP 13 (.ext (.tmp 10) 0)),(oP 14 (.ext (.tmp 10) 1)),(mV 4 13),(mV 5 14)]
 (sr [(oP 6 (.mov (.const (.c (.str [])))))]
 (.seq (sr [(mV 15 4),(oP 16 (.len (.tmp 15))),(oP 17 (.mov (kI 0)))]
 (.block 0 (.loop a50_c2)))
 (sr [(mV 51 6),(mV 52 5),(mV 2 51),(mV 3 52)]
 .ret)))))⟩
theorem c50:compFunc Tryz.prog 50=some a50:=by kernel_rfl
def Z5v (r:(Tx×Bool)):AV→Heap→Nat→Prop:=fun v h' n' => v=(.tup [(S r.1),(B r.2)])∧(h' = e0)∧n' = 0
abbrev Z75 (r_:((List Tunit)×Bool)) (F_:Tx→(List Tunit)→Int→Option (Tx×Bool)) (o:(Tx×Bool)) (R_:St→Prop):Prop:=∀(out:Tx) (v15:(List Tunit)) (v17:Int) (zv15:Bool) (_:zv15=true→v15=[]),F_ out v15 v17=some o→∀ s,Weak 0 s ⟨(ue [(17,(I v17)),(16,(I (r_.1.length:Int))),(15,(lstV zv15 0 2 v15.length)),(6,(S out)),(5,(B r_.2))]),(upd e0 0 (lstB zv15 2 (v15.map e_Tunit))),1⟩→R_ s
abbrev Z76 (r_:((List Tunit)×Bool)) (F_:Tx→Option (Tx×Bool)) (o:(Tx×Bool)) (R_:St→Prop):Prop:=∀(out1:Tx),F_ out1=some o→∀ s,Weak 0 s ⟨(ue [(6,(S out1)),(5,(B r_.2))]),e0,0⟩→R_ s
noncomputable def Z3i (v17:Int) (r_:((List Tunit)×Bool)) (self:Tx→(List Tunit)→Int→Option (Tx×Bool)) (K0_:Tx→Option (Tx×Bool)) (out2:Tx) (v151:(List Tunit)):Option (Tx×Bool) :=
 self out2 v151 (wi (v17+1))
theorem Zaf {mL:Int}{Q:AExit→St→Prop}{v17:Int}{r_:((List Tunit)×Bool)}{self:Tx→(List Tunit)→Int→Option (Tx×Bool)}{K0_:Tx→Option (Tx×Bool)}{out2:Tx}{v151:(List Tunit)}{zv151:Bool}(hzv151:zv151=true→v151=[]) {o:(Tx×Bool)}(h:Z3i v17 r_ self K0_ out2 v151=some o)
  (hself:Z75 r_ self o (Q .normal))
  (hK0:Z76 r_ K0_ o (Q (.exit 0)))
  (hr:∀ s,Ends a50.results 0 (Z5v o) .ret s→Q .ret s) :
  Sv Tryz.prog (GG mL) 0 a50_c1 Q ⟨(ue [(17,(I v17)),(16,(I (r_.1.length:Int))),(15,(lstV zv151 0 2 v151.length)),(6,(S out2)),(5,(B r_.2))]),(upd e0 0 (lstB zv151 2 (v151.map e_Tunit))),1⟩:=by
 unfold Z3i at h
 refine srg<|un1 (v:=(I (wi (v17+1)))) rfl<|un1 rfl<|dnil ?_
 exact hself out2 v151 (wi (v17+1)) zv151 hzv151 h _ (wcn [0] rfl (.cf rfl rfl (.cf rfl rfl (.cons rfl (.c (lsr rfl rfl)) (.cf rfl rfl (.cf rfl rfl .nil))))) (.row (by decide) rfl (fr_map fun _=>rfl) .nil))
abbrev Zfb (mL:Int) (Q:AExit→St→Prop):AExit→St→Prop:=AThen (Sv Tryz.prog (GG mL) 0 a50_c1 Q) Q
abbrev Zfc (mL:Int) (Q:AExit→St→Prop):AExit→St→Prop:=ABlock 1 (Zfb mL Q)
noncomputable def Z1y (out:Tx) (x_:Tunit) (v17:Int) (r_:((List Tunit)×Bool)) (self:Tx→(List Tunit)→Int→Option (Tx×Bool)) (K0_:Tx→Option (Tx×Bool)) (v152:(List Tunit)) (v42:Bool):Option (Tx×Bool) :=
 if v42 then
  (cat? out (byts [x_.f_c])).bind fun r_1 =>
  Z3i v17 r_ self K0_ r_1 v152
 else
  (Z2n (byts [x_.f_c])).bind fun r_2 =>
  (cat? out r_2).bind fun r_3 =>
  Z3i v17 r_ self K0_ r_3 v152
theorem Zag {mL:Int}{Q:AExit→St→Prop}{out:Tx}{x_:Tunit}{v17:Int}{r_:((List Tunit)×Bool)}{self:Tx→(List Tunit)→Int→Option (Tx×Bool)}{K0_:Tx→Option (Tx×Bool)}{v152:(List Tunit)}{v42:Bool}{zv152:Bool}(hzv152:zv152=true→v152=[]) {o:(Tx×Bool)}(h:Z1y out x_ v17 r_ self K0_ v152 v42=some o)
  (hself:Z75 r_ self o (Q .normal))
  (hK0:Z76 r_ K0_ o (Q (.exit 0)))
  (hr:∀ s,Ends a50.results 0 (Z5v o) .ret s→Q .ret s) :
  Sv Tryz.prog (GG mL) 0 a50_c0 (Zfc mL Q) ⟨(ue [(42,(B v42)),(17,(I v17)),(16,(I (r_.1.length:Int))),(15,(lstV zv152 0 2 v152.length)),(9,(S (byts [x_.f_c]))),(6,(S out)),(5,(B r_.2))]),(upd e0 0 (lstB zv152 2 (v152.map e_Tunit))),1⟩:=by
 unfold Z1y at h
 refine Sv.cnd rfl h (fun h=>?_) fun h=>?_
 ·refine srg<|un1 rfl<|un1 rfl ?_
  obtain ⟨r_1,hx2,h⟩:=bnd h
  refine un1 (v:=(S r_1)) (s_cat rfl rfl hx2)<|un1 rfl<|dnil ?_
  exact Sv.weak (wcn [0] rfl (.cf rfl rfl (.cf rfl rfl (.cons rfl (.c (lsr rfl rfl)) (.cf rfl rfl (.cf rfl rfl .nil))))) (.row (by decide) rfl (fr_map fun _=>rfl) .nil)) (Zaf hzv152 h hself hK0 hr)
 ·refine srg<|un1 rfl<|un1 rfl ?_
  obtain ⟨r_2,hr2,h⟩:=bnd h
  refine un<|ac_pure (Zae hr2) rfl rfl rfl ?_
  obtain ⟨r_3,hx3,h⟩:=bnd h
  refine un1 (v:=(S r_3)) (s_cat rfl rfl hx3)<|un1 rfl<|dnil ?_
  exact Sv.weak (wcn [0] rfl (.cf rfl rfl (.cf rfl rfl (.cons rfl (.c (lsr rfl rfl)) (.cf rfl rfl (.cf rfl rfl .nil))))) (.row (by decide) rfl (fr_map fun _=>rfl) .nil)) (Zaf hzv152 h hself hK0 hr)
abbrev Zah (r_:((List Tunit)×Bool)) (F_:Nat→Tx→(List Tunit)→Int→Option (Tx×Bool)) (o:(Tx×Bool)):Nat→St→Prop:=fun k s=>∃(out:Tx),∃(v15:(List Tunit)),∃(v17:Int),∃(zv15:Bool),(zv15=true→v15=[])∧F_ k out v15 v17=some o∧s=⟨(ue [(17,(I v17)),(16,(I (r_.1.length:Int))),(15,(lstV zv15 0 2 v15.length)),(6,(S out)),(5,(B r_.2))]),(upd e0 0 (lstB zv15 2 (v15.map e_Tunit))),1⟩
noncomputable def Z4 (r_:((List Tunit)×Bool)) (K0_:Tx→Option (Tx×Bool)):Nat→Tx→(List Tunit)→Int→Option (Tx×Bool)
 | 0,_,_,_=>none
 | k+1,out,v15,v17 =>
  if decide (v17<(r_.1.length:Int)) then
   (at? v15 v17).bind fun x_ =>
   (Z3h x_.f_c).bind fun r_4 =>
   if (((!r_4)&&(!x_.f_triple))&&(decide (x_.f_c<128))) then
    (Z2j [33,36,38,39,40,41,42,43,44,59,61,58,64,47,63] (byts [x_.f_c])).bind fun r_5 =>
    Z1y out x_ v17 r_ (Z4 r_ K0_ k) K0_ v15 r_5
   else
    Z1y out x_ v17 r_ (Z4 r_ K0_ k) K0_ v15 false
  else
   K0_ out
theorem Zfd {mL:Int}{Q:AExit→St→Prop}{r_:((List Tunit)×Bool)}{K0_:Tx→Option (Tx×Bool)}{k:Nat}{out:Tx}{v15:(List Tunit)}{v17:Int}{zv15:Bool}(hzv15:zv15=true→v15=[]) {o:(Tx×Bool)}(h:Z4 r_ K0_ k out v15 v17=some o)
  (hK0:Z76 r_ K0_ o (Q (.exit 0)))
  (hr:∀ s,Ends a50.results 0 (Z5v o) .ret s→Q .ret s) :
  Sv Tryz.prog (GG mL) 0 (.loop a50_c2) Q ⟨(ue [(17,(I v17)),(16,(I (r_.1.length:Int))),(15,(lstV zv15 0 2 v15.length)),(6,(S out)),(5,(B r_.2))]),(upd e0 0 (lstB zv15 2 (v15.map e_Tunit))),1⟩:=by
 refine Sv.loop (I:=Zah r_ (Z4 r_ K0_) o) (fun k s hI=>?_) ⟨out,v15,v17,zv15,hzv15,h,rfl⟩
 clear h
 clear hzv15 zv15 v17 v15 out
 obtain ⟨out,v15,v17,zv15,hzv15,h,rfl⟩:=hI
 cases k with
 | zero=>cases h
 | succ k =>
 rw [Z4] at h
 have hself:Z75 r_ (Z4 r_ K0_ k) o (rnd 0 (Zah r_ (Z4 r_ K0_) o) k Q):=fun out v15 v17 zv15 hzv15 h s hw=>⟨_,k,hw,Nat.lt_succ_self k,out,v15,v17,zv15,hzv15,h,rfl⟩
 refine ssr<|un1 (v:=(B (decide (v17<(r_.1.length:Int))))) rfl<|dnil<|Sv.seq ?_
 refine Sv.cnd rfl h (fun h=>?_) fun h=>?_
 ·refine Sv.skip<|Sv.seq<|Sv.block<|ssr ?_
  obtain ⟨x_,hx1,h⟩:=bnd h
  refine un1 (v:=(.c (.ref 0 2 v17.toNat 0))) (s_iaddrL rfl rfl hzv15 hx1)<|un1 (v:=(.agg (e_Tunit x_))) (s_loadL (z:=zv15) (e:=e_Tunit) rfl rfl hzv15 hx1 rfl rfl)<|un<|a2v (v:=(.c (.ref 1 2 0 0))) (h' := upd _ 1 (some (.cells 2 [[.val (.int .u8 0),cB false]]))) (n' := 2) rfl rfl hcs<|un<|a2n (h' := upd _ 1 (some (.cells 2 [(e_Tunit x_)]))) (n' := 2) rfl rfl hcs<|dnil<|ssr<|un1 (v:=(.c (.ref 1 2 0 0))) rfl<|un1 (v:=(.c (.val (.int .u8 x_.f_c)))) rfl<|un<|a2v (v:=(lstV false 2 1 [x_.f_c].length)) (h' := upd _ 2 (lstB false 1 ([x_.f_c].map (eK .u8)))) (n' := 3) rfl rfl hcs<|un1 (v:=(S (byts [x_.f_c]))) (s_ofBytes (xs:=[x_.f_c]) rfl (slc_lst rfl (List.length_map _).symm (map_nil_of hcs)))<|un1 rfl<|dnil<|ssr<|un1 (v:=(.c (.ref 1 2 0 0))) rfl<|un1 (v:=(.c (.val (.int .u8 x_.f_c)))) rfl ?_
  obtain ⟨r_4,hr3,h⟩:=bnd h
  refine un<|ac_pure (Za9 hr3) rfl rfl rfl<|un1 (v:=(B (!r_4))) rfl<|un1 rfl ?_
  refine gjoin 4 (d:=33) (v:=(B ((!r_4)&&(!x_.f_triple)))) (fun X hX=>?_) ?_
  ·refine split2 (fun hc3=>?_) (fun hc3=>?_)
   ·refine gt rfl<|a1 (v:=(.c (.ref 1 2 0 1))) rfl<|gt rfl<|a1 (v:=(B x_.f_triple)) rfl<|gt rfl<|a1 (v:=(B (!x_.f_triple))) rfl<|un1 (v:=(B (!x_.f_triple))) rfl<|dnil ?_
    exact hX _ (.putEq (by rw [hc3]; rfl) (.skp (.skp (.skp (.putEq (by rw [hc3]) (.refl _)) rfl) rfl) rfl))
   ·refine gs rfl rfl<|gs rfl rfl<|gs rfl rfl<|un1 (v:=(B false)) rfl<|dnil ?_
    exact hX _ (.putEq (by rw [hc3]; rfl) (.skp (.skp (.skp (.putEq (by rw [hc3]) (.refl _)) rfl) rfl) rfl))
  refine un1 rfl ?_
  refine gjoin 4 (d:=38) (v:=(B (((!r_4)&&(!x_.f_triple))&&(decide (x_.f_c<128))))) (fun X hX=>?_) ?_
  ·refine split2 (fun hc4=>?_) (fun hc4=>?_)
   ·refine gt rfl<|a1 (v:=(.c (.ref 1 2 0 0))) rfl<|gt rfl<|a1 (v:=(.c (.val (.int .u8 x_.f_c)))) rfl<|gt rfl<|a1 (v:=(B (decide (x_.f_c<128)))) rfl<|un1 (v:=(B (decide (x_.f_c<128)))) rfl<|dnil ?_
    exact hX _ (.putEq (by rw [hc4]; rfl) (.skp (.skp (.skp (.putEq (by rw [hc4]) (.refl _)) rfl) rfl) rfl))
   ·refine gs rfl rfl<|gs rfl rfl<|gs rfl rfl<|un1 (v:=(B false)) rfl<|dnil ?_
    exact hX _ (.putEq (by rw [hc4]; rfl) (.skp (.skp (.skp (.putEq (by rw [hc4]) (.refl _)) rfl) rfl) rfl))
  refine un1 rfl ?_
  refine spl h (fun h=>?_) fun h=>?_
  ·refine gt rfl<|a1 rfl ?_
   obtain ⟨r_5,hr4,h⟩:=bnd h
   refine gt rfl<|ac_pure (Z4m hr4) rfl rfl rfl<|un1 (v:=(B r_5)) rfl<|dnil ?_
   exact Sv.weak (wcn [0] rfl (.cf rfl rfl (.cf rfl rfl (.cf rfl rfl (.cons rfl (.c (lsr rfl rfl)) (.cf rfl rfl (.cf rfl rfl (.cf rfl rfl .nil))))))) (.row (by decide) rfl (fr_map fun _=>rfl) .nil)) (Zag hzv15 h hself hK0 hr)
  ·refine gs rfl rfl<|gs rfl rfl<|un1 (v:=(B false)) rfl<|dnil ?_
   exact Sv.weak (wcn [0] rfl (.cf rfl rfl (.cf rfl rfl (.cf rfl rfl (.cons rfl (.c (lsr rfl rfl)) (.cf rfl rfl (.cf rfl rfl (.cf rfl rfl .nil))))))) (.row (by decide) rfl (fr_map fun _=>rfl) .nil)) (Zag hzv15 h hself hK0 hr)
 ·refine Sv.exit ?_
  exact hK0 out h _ (wcn [] rfl (.cf rfl rfl (.cf rfl rfl .nil)) .nil)
noncomputable def Z1z (s_:Tx):Option (Tx×Bool) :=
 (Z3g s_).bind fun r_ =>
 lim fun kk=>Z4 r_ (fun (out1:Tx) => 
   some (out1,r_.2)) kk [] r_.1 0
theorem Z5w {mL:Int}{s_:Tx}{r:(Tx×Bool)}(h:Z1z s_=some r):CPure Tryz.prog (GG mL) 50 [(S s_)] (.tup [(S r.1),(B r.2)]):=by
 refine acalls_of_sv hmix c50 (R:=Z5v r) ?_
 unfold Z1z at h
 refine ssr<|un1 rfl<|un1 rfl<|dnil<|ssr<|un1 rfl ?_
 obtain ⟨r_,hr1,h⟩:=bnd h
 refine un<|ac_gen (bs:=[]) («as»:=[(S s_)]) (h2:=_) (h1:=e0) (Za8 hr1) rfl (.cons (avAs_free rfl) .nil) (hsub_refl _) (.nil _) (fun _=>rfl) (by decide) (by decide) (.cons (avAs_free rfl) .nil) .nil ?_
 rintro _ _ _ hn ⟨z_,hz_,rfl,rfl,rfl⟩
 refine ⟨.inl rfl,(upd (rem [] _) 0 (lstB z_ 2 (r_.1.map e_Tunit))),fun hbd=>(m3_cons (m3_row rfl (fr_map fun _=>rfl)) (m3_rem (in_nil _) (.cons (by decide) .nil) hbd)),(.tup [(lstV z_ 0 2 r_.1.length),(B r_.2)]),1,(by cases z_ <;> rfl),rfl,?_⟩
 refine un1 rfl<|un1 (v:=(lstV z_ 0 2 r_.1.length)) rfl<|un1 (v:=(B r_.2)) rfl<|un1 rfl<|un1 rfl<|dnil<|ssr<|un1 rfl<|dnil<|Sv.seq<|ssr<|un1 rfl<|un1 (v:=(I (r_.1.length:Int))) (s_lenL rfl (len_nil_of hz_))<|un1 rfl<|dnil<|Sv.block ?_
 obtain ⟨kk,h⟩:=lim_some h
 refine Sv.weak (wcn [0] rfl (.cf rfl rfl (.cf rfl rfl (.cons rfl (.c (lsr rfl rfl)) (.cf rfl rfl (.cf rfl rfl .nil))))) (.row (by decide) rfl (fr_map fun _=>rfl) .nil)) (Zfd hz_ h ?_ (fun s hs=>hs))
 ·intro out1 h _ hw1
  refine Sv.weak hw1<|ssr<|un1 rfl<|un1 rfl<|un1 rfl<|un1 rfl<|dnil<|Sv.ret ?_
  exact rt0 h rfl rfl ⟨rfl,rfl,rfl⟩
def a26:AFunc:=⟨2,[(.tmp 4),(.tmp 5)],(sr [(oP 4 (.mov (.const (.c (.str []))))),(oP 5 (.mov kF))]
 (sr [(mV 13 1),(oP 14 (.call 38 [(.tmp 13),(.const (.c (.str [35])))])),(mV 12 14),(oP 15 (.ext (.tmp 12) 0)),(oP 16 (.ext (.tmp 12) 1)),(mV 6 15),(mV 7 16)]
 (sr [(mV 18 6),(oP 19 (.call 38 [(.tmp 18),(.const (.c (.str [63])))])),(mV 17 19),(oP 20 (.ext (.tmp 17) 0)),(oP 21 (.ext (.tmp 17) 1)),(mV 8 20),(mV 9 21)]
 (sr [(mV 22 0),(mV 23 0),(mV 24 9),(oP 25 (.bin .neq (.tmp 24) (.const (.c (.str []))))),(mV 26 7),(oP 27 (.bin .neq (.tmp 26) (.const (.c (.str []))))),(oP 28 (.nilc (.tmp 22))),(oP 29 (.faddr 5 (.tmp 28))),(oN (.store 1 (.tmp 29) (.tmp 25))),(oP 30 (.nilc (.tmp 23))),(oP 31 (.faddr 7 (.tmp 30))),(oN (.store 1 (.tmp 31) (.tmp 27)))]
 (sr [(oP 10 (.mov kF)),(oP 11 (.mov kF))]
 (sr [(mV 33 0),(mV 34 9),(oP 35 (.call 28 [(.tmp 34),(.const (.c (.str [63])))])),(oP 36 (.call 50 [(.tmp 35)])),(mV 32 36),(oP 37 (.ext (.tmp 32) 0)),(oP 38 (.ext (.tmp 32) 1)),(oP 39 (.nilc (.tmp 33))),(oP 40 (.faddr 4 (.tmp 39))),(oN (.store 1 (.tmp 40) (.tmp 37))),(mV 10 38)]
 (sr [(mV 42 0),(mV 43 7),(oP 44 (.call 28 [(.tmp 43),(.const (.c (.str [35])))])),(oP 45 (.call 50 [(.tmp 44)])),(mV 41 45),(oP 46 (.ext (.tmp 41) 0)),(oP 47 (.ext (.tmp 41) 1)),(oP 48 (.nilc (.tmp 42))),(oP 49 (.faddr 6 (.tmp 48))),(oN (.store 1 (.tmp 49) (.tmp 46))),(mV 11 47)]
 (sr [(mV 50 8),(mV 51 10),(mV 52 51),⟨(some 53),(.mov (.tmp 11)),(some (52,true))⟩,(oP 54 (.pick (.tmp 52) (.tmp 53) kF)),(mV 4 50),(mV 5 54)]
 .ret))))))))⟩
theorem c26:compFunc Tryz.prog 26=some a26:=by kernel_rfl
def Zai (r:(Tx×Bool×TJUrl)):AV→Heap→Nat→Prop:=fun v h' n' => v=(.tup [(S r.1),(B r.2.1)])∧(h' = (upd e0 0 (some (.cells 8 [[.str r.2.2.Scheme,.str r.2.2.Host,cI r.2.2.Port,.ro false 1 (r.2.2.Path.map eStr),.str r.2.2.Query,cB r.2.2.Asks,.str r.2.2.Fragment,cB r.2.2.Points]]))))∧n' = 1
noncomputable def Z50 (u_:TJUrl) (s_:Tx):Option (Tx×Bool×TJUrl) :=
 (Z8 s_ [35]).bind fun r_ =>
 (Z8 r_.1 [63]).bind fun r_1 =>
 (Z7 r_1.2 [63]).bind fun r_2 =>
 (Z1z r_2).bind fun r_3 =>
 (Z7 r_.2 [35]).bind fun r_4 =>
 (Z1z r_4).bind fun r_5 =>
 some (r_1.1,(r_3.2&&r_5.2),(⟨u_.Scheme,u_.Host,u_.Port,u_.Path,r_3.1,(!decide (r_1.2=[])),r_5.1,(!decide (r_.2=[]))⟩:TJUrl))
theorem Zfe {mL:Int}{u_:TJUrl}{s_:Tx}{r:(Tx×Bool×TJUrl)}(h:Z50 u_ s_=some r):ACalls Tryz.prog (GG mL) 26 [(.c (.ref 0 8 0 0)),(S s_)] (upd e0 0 (some (.cells 8 [[.str u_.Scheme,.str u_.Host,cI u_.Port,.ro false 1 (u_.Path.map eStr),.str u_.Query,cB u_.Asks,.str u_.Fragment,cB u_.Points]]))) 1 (Zai r):=by
 refine acalls_of_sv hmix c26 (R:=Zai r) ?_
 unfold Z50 at h
 refine ssr<|un1 rfl<|un1 rfl<|dnil<|ssr<|un1 rfl ?_
 obtain ⟨r_,hr1,h⟩:=bnd h
 refine un<|ac_pure (Z1w hr1) rfl rfl rfl<|un1 rfl<|un1 (v:=(S r_.1)) rfl<|un1 (v:=(S r_.2)) rfl<|un1 rfl<|un1 rfl<|dnil<|ssr<|un1 rfl ?_
 obtain ⟨r_1,hr2,h⟩:=bnd h
 refine un<|ac_pure (Z1w hr2) rfl rfl rfl<|un1 rfl<|un1 (v:=(S r_1.1)) rfl<|un1 (v:=(S r_1.2)) rfl<|un1 rfl<|un1 rfl<|dnil<|ssr<|un1 rfl<|un1 rfl<|un1 rfl<|un1 (v:=(B (!decide (r_1.2=[])))) rfl<|un1 rfl<|un1 (v:=(B (!decide (r_.2=[])))) rfl<|un1 (v:=(.c (.ref 0 8 0 0))) rfl<|un1 (v:=(.c (.ref 0 8 0 5))) rfl<|un<|a2n (h' := upd _ 0 (some (.cells 8 [[.str u_.Scheme,.str u_.Host,cI u_.Port,.ro false 1 (u_.Path.map eStr),.str u_.Query,cB (!decide (r_1.2=[])),.str u_.Fragment,cB u_.Points]]))) (n' := 1) rfl rfl hcs<|un1 (v:=(.c (.ref 0 8 0 0))) rfl<|un1 (v:=(.c (.ref 0 8 0 7))) rfl<|un<|a2n (h' := upd _ 0 (some (.cells 8 [[.str u_.Scheme,.str u_.Host,cI u_.Port,.ro false 1 (u_.Path.map eStr),.str u_.Query,cB (!decide (r_1.2=[])),.str u_.Fragment,cB (!decide (r_.2=[]))]]))) (n' := 1) rfl rfl hcs<|dnil<|ssr<|un1 rfl<|un1 rfl<|dnil<|ssr<|un1 rfl<|un1 rfl ?_
 obtain ⟨r_2,hr3,h⟩:=bnd h
 refine un<|ac_pure (Z2d hr3) rfl rfl rfl ?_
 obtain ⟨r_3,hr4,h⟩:=bnd h
 refine un<|ac_pure (Z5w hr4) rfl rfl rfl<|un1 rfl<|un1 (v:=(S r_3.1)) rfl<|un1 (v:=(B r_3.2)) rfl<|un1 (v:=(.c (.ref 0 8 0 0))) rfl<|un1 (v:=(.c (.ref 0 8 0 4))) rfl<|un<|a2n (h' := upd _ 0 (some (.cells 8 [[.str u_.Scheme,.str u_.Host,cI u_.Port,.ro false 1 (u_.Path.map eStr),.str r_3.1,cB (!decide (r_1.2=[])),.str u_.Fragment,cB (!decide (r_.2=[]))]]))) (n' := 1) rfl rfl hcs<|un1 rfl<|dnil<|ssr<|un1 rfl<|un1 rfl ?_
 obtain ⟨r_4,hr5,h⟩:=bnd h
 refine un<|ac_pure (Z2d hr5) rfl rfl rfl ?_
 obtain ⟨r_5,hr6,h⟩:=bnd h
 refine un<|ac_pure (Z5w hr6) rfl rfl rfl<|un1 rfl<|un1 (v:=(S r_5.1)) rfl<|un1 (v:=(B r_5.2)) rfl<|un1 (v:=(.c (.ref 0 8 0 0))) rfl<|un1 (v:=(.c (.ref 0 8 0 6))) rfl<|un<|a2n (h' := upd _ 0 (some (.cells 8 [[.str u_.Scheme,.str u_.Host,cI u_.Port,.ro false 1 (u_.Path.map eStr),.str r_3.1,cB (!decide (r_1.2=[])),.str r_5.1,cB (!decide (r_.2=[]))]]))) (n' := 1) rfl rfl hcs<|un1 rfl<|dnil<|ssr<|un1 rfl<|un1 rfl<|un1 rfl ?_
 refine gjoin 2 (d:=54) (v:=(B (r_3.2&&r_5.2))) (fun X hX=>?_) ?_
 ·refine split2 (fun hc1=>?_) (fun hc1=>?_)
  ·refine gt rfl<|a1 rfl<|un1 (v:=(B r_5.2)) rfl<|dnil ?_
   exact hX _ (.putEq (by rw [hc1]; rfl) (.skp (.putEq (by rw [hc1]) (.refl _)) rfl))
  ·refine gs rfl rfl<|un1 (v:=(B false)) rfl<|dnil ?_
   exact hX _ (.putEq (by rw [hc1]; rfl) (.skp (.putEq (by rw [hc1]) (.refl _)) rfl))
 refine un1 rfl<|un1 rfl<|dnil<|Sv.ret ?_
 replace h:=Option.some.inj h
 subst h
 exact ⟨_,.refl _,_,rfl,⟨upd e0 0 (some (.tup [(S r_1.1),(B (r_3.2&&r_5.2))])),(upd e0 0 (some (.cells 8 [[.str u_.Scheme,.str u_.Host,cI u_.Port,.ro false 1 (u_.Path.map eStr),.str r_3.1,cB (!decide (r_1.2=[])),.str r_5.1,cB (!decide (r_.2=[]))]]))),1⟩,(.tup [(S r_1.1),(B (r_3.2&&r_5.2))]),weak_canon2 [0] [0] (by decide) (by decide) (by decide) (.cons (by decide) .nil) (.cons rfl (avAs_tup (.cons (avAs_free rfl) (.cons (avAs_free rfl) .nil))) .nil) (.box (by decide) rfl (blkAs_cells (.sm rfl (.sm rfl (.sm rfl (.sm rfl (.sm rfl (.sm rfl (.sm rfl (.sm rfl .nil))))))))) .nil),rfl,rfl,rfl,rfl⟩
def Zaj (r:(Tx×Bool×TJUrl)):AV→Heap→Nat→Prop:=fun v h' n' => ∃ z0:Bool,(z0=true→r.2.2.Path=[])∧v=(.tup [(S r.1),(B r.2.1)])∧(h' = (upd (upd e0 0 (some (.cells 8 [[.str r.2.2.Scheme,.str r.2.2.Host,cI r.2.2.Port,lstC z0 2 1 r.2.2.Path.length,.str r.2.2.Query,cB r.2.2.Asks,.str r.2.2.Fragment,cB r.2.2.Points]]))) 2 (lstB z0 1 (r.2.2.Path.map eStr))))∧n' = 3
noncomputable def Z3j (u_:TJUrl) (s_:Tx):Option (Tx×Bool×TJUrl) :=
 (Z8 s_ [35]).bind fun r_ =>
 (Z8 r_.1 [63]).bind fun r_1 =>
 (Z7 r_1.2 [63]).bind fun r_2 =>
 (Z1z r_2).bind fun r_3 =>
 (Z7 r_.2 [35]).bind fun r_4 =>
 (Z1z r_4).bind fun r_5 =>
 some (r_1.1,(r_3.2&&r_5.2),(⟨u_.Scheme,u_.Host,u_.Port,u_.Path,r_3.1,(!decide (r_1.2=[])),r_5.1,(!decide (r_.2=[]))⟩:TJUrl))
theorem Zff {mL:Int}{u_:TJUrl}{s_:Tx}{zu:Bool}(hzu:zu=true→u_.Path=[]) {r:(Tx×Bool×TJUrl)}(h:Z3j u_ s_=some r):ACalls Tryz.prog (GG mL) 26 [(.c (.ref 0 8 0 0)),(S s_)] (upd (upd e0 0 (some (.cells 8 [[.str u_.Scheme,.str u_.Host,cI u_.Port,lstC zu 1 1 u_.Path.length,.str u_.Query,cB u_.Asks,.str u_.Fragment,cB u_.Points]]))) 1 (lstB zu 1 (u_.Path.map eStr))) 2 (Zaj r):=by
 refine acalls_of_sv hmix c26 (R:=Zaj r) ?_
 unfold Z3j at h
 refine ssr<|un1 rfl<|un1 rfl<|dnil<|ssr<|un1 rfl ?_
 obtain ⟨r_,hr1,h⟩:=bnd h
 refine un<|ac_pure (Z1w hr1) rfl rfl rfl<|un1 rfl<|un1 (v:=(S r_.1)) rfl<|un1 (v:=(S r_.2)) rfl<|un1 rfl<|un1 rfl<|dnil<|ssr<|un1 rfl ?_
 obtain ⟨r_1,hr2,h⟩:=bnd h
 refine un<|ac_pure (Z1w hr2) rfl rfl rfl<|un1 rfl<|un1 (v:=(S r_1.1)) rfl<|un1 (v:=(S r_1.2)) rfl<|un1 rfl<|un1 rfl<|dnil<|ssr<|un1 rfl<|un1 rfl<|un1 rfl<|un1 (v:=(B (!decide (r_1.2=[])))) rfl<|un1 rfl<|un1 (v:=(B (!decide (r_.2=[])))) rfl<|un1 (v:=(.c (.ref 0 8 0 0))) rfl<|un1 (v:=(.c (.ref 0 8 0 5))) rfl<|un<|a2n (h' := upd _ 0 (some (.cells 8 [[.str u_.Scheme,.str u_.Host,cI u_.Port,lstC zu 1 1 u_.Path.length,.str u_.Query,cB (!decide (r_1.2=[])),.str u_.Fragment,cB u_.Points]]))) (n' := 2) rfl rfl hcs<|un1 (v:=(.c (.ref 0 8 0 0))) rfl<|un1 (v:=(.c (.ref 0 8 0 7))) rfl<|un<|a2n (h' := upd _ 0 (some (.cells 8 [[.str u_.Scheme,.str u_.Host,cI u_.Port,lstC zu 1 1 u_.Path.length,.str u_.Query,cB (!decide (r_1.2=[])),.str u_.Fragment,cB (!decide (r_.2=[]))]]))) (n' := 2) rfl rfl hcs<|dnil<|ssr<|un1 rfl<|un1 rfl<|dnil<|ssr<|un1 rfl<|un1 rfl ?_
 obtain ⟨r_2,hr3,h⟩:=bnd h
 refine un<|ac_pure (Z2d hr3) rfl rfl rfl ?_
 obtain ⟨r_3,hr4,h⟩:=bnd h
 refine un<|ac_pure (Z5w hr4) rfl rfl rfl<|un1 rfl<|un1 (v:=(S r_3.1)) rfl<|un1 (v:=(B r_3.2)) rfl<|un1 (v:=(.c (.ref 0 8 0 0))) rfl<|un1 (v:=(.c (.ref 0 8 0 4))) rfl<|un<|a2n (h' := upd _ 0 (some (.cells 8 [[.str u_.Scheme,.str u_.Host,cI u_.Port,lstC zu 1 1 u_.Path.length,.str r_3.1,cB (!decide (r_1.2=[])),.str u_.Fragment,cB (!decide (r_.2=[]))]]))) (n' := 2) rfl rfl hcs<|un1 rfl<|dnil<|ssr<|un1 rfl<|un1 rfl ?_
 obtain ⟨r_4,hr5,h⟩:=bnd h
 refine un<|ac_pure (Z2d hr5) rfl rfl rfl ?_
 obtain ⟨r_5,hr6,h⟩:=bnd h
 refine un<|ac_pure (Z5w hr6) rfl rfl rfl<|un1 rfl<|un1 (v:=(S r_5.1)) rfl<|un1 (v:=(B r_5.2)) rfl<|un1 (v:=(.c (.ref 0 8 0 0))) rfl<|un1 (v:=(.c (.ref 0 8 0 6))) rfl<|un<|a2n (h' := upd _ 0 (some (.cells 8 [[.str u_.Scheme,.str u_.Host,cI u_.Port,lstC zu 1 1 u_.Path.length,.str r_3.1,cB (!decide (r_1.2=[])),.str r_5.1,cB (!decide (r_.2=[]))]]))) (n' := 2) rfl rfl hcs<|un1 rfl<|dnil<|ssr<|un1 rfl<|un1 rfl<|un1 rfl ?_
 refine gjoin 2 (d:=54) (v:=(B (r_3.2&&r_5.2))) (fun X hX=>?_) ?_
 ·refine split2 (fun hc1=>?_) (fun hc1=>?_)
  ·refine gt rfl<|a1 rfl<|un1 (v:=(B r_5.2)) rfl<|dnil ?_
   exact hX _ (.putEq (by rw [hc1]; rfl) (.skp (.putEq (by rw [hc1]) (.refl _)) rfl))
  ·refine gs rfl rfl<|un1 (v:=(B false)) rfl<|dnil ?_
   exact hX _ (.putEq (by rw [hc1]; rfl) (.skp (.putEq (by rw [hc1]) (.refl _)) rfl))
 refine un1 rfl<|un1 rfl<|dnil<|Sv.ret ?_
 replace h:=Option.some.inj h
 subst h
 exact ⟨_,.refl _,_,rfl,⟨upd e0 0 (some (.tup [(S r_1.1),(B (r_3.2&&r_5.2))])),(upd (upd e0 0 (some (.cells 8 [[.str u_.Scheme,.str u_.Host,cI u_.Port,lstC zu 2 1 u_.Path.length,.str r_3.1,cB (!decide (r_1.2=[])),.str r_5.1,cB (!decide (r_.2=[]))]]))) 2 (lstB zu 1 (u_.Path.map eStr))),3⟩,(.tup [(S r_1.1),(B (r_3.2&&r_5.2))]),weak_canon2 [0,1,1] [0,2] (by decide) (by decide) (by decide) (.cons (by decide) (.cons (by decide) .nil)) (.cons rfl (avAs_tup (.cons (avAs_free rfl) (.cons (avAs_free rfl) .nil))) .nil) (.row (by decide) rfl (fr_map fun _=>rfl) (.box (by decide) rfl (blkAs_cells (.sm rfl (.sm rfl (.sm rfl (.cons (lstC_ren rfl (by decide)) (.sm rfl (.sm rfl (.sm rfl (.sm rfl .nil))))))))) .nil)),rfl,zu,hzu,rfl,rfl,rfl⟩
def a52_c0:ACode:=(sr [(oP 17 (.bin .lss (.tmp 16) (.tmp 15)))]
 (.seq (.cond (.tmp 17) .skip (.exit 0))
 (.seq (.block 1 (sr [(oP 18 (.iaddr 2 (.tmp 14) (.tmp 16))),(oP 19 (.load true 2 (.tmp 18))),(oP 8 (.box (.const (.agg [(.val (.int .u8 0)),(.val (.bool false))])))),(oN (.store 2 (.tmp 8) (.tmp 19)))]
 (.region [(mV 20 6),(oP 21 (.faddr 0 (.tmp 8))),(oP 22 (.load false 1 (.tmp 21))),(oP 23 (.bslice 1 [(.val (.int .u8 0))] 1 [(0,(.tmp 22))])),(oP 24 (.app 1 1 (.tmp 20) (.tmp 23))),(mV 6 24)])))
 (.region [(oP 25 (.bin .add (.tmp 16) (kI 1))),(mV 16 25)]))))
def a52:AFunc:=⟨1,[(.tmp 2),(.tmp 3)],(sr [(oP 2 (.mov (.const (.c (.str []))))),(oP 3 (.mov kF))]
 (sr [(mV 10 0),(oP 11 (.call 74 [(.tmp 10)])),(mV 9 11),(oP 12 (.ext (.tmp 9) 0)),(oP 13 (.ext (.tmp 9) 1)),(mV 4 12),(mV 5 13)]
 (sr [(oP 6 (.mov (.const (.c (.ro true 1 [])))))]
 (.seq (sr [(mV 14 4),(oP 15 (.len (.tmp 14))),(oP 16 (.mov (kI 0)))]
 (.block 0 (.loop a52_c0)))
 (sr [(mV 26 6),(oP 27 (.ofBytes (.tmp 26))),(mV 28 5),(mV 2 27),(mV 3 28)]
 .ret)))))⟩
theorem c52:compFunc Tryz.prog 52=some a52:=by kernel_rfl
def Zak (r:(Tx×Bool)):AV→Heap→Nat→Prop:=fun v h' n' => v=(.tup [(S r.1),(B r.2)])∧(h' = e0)∧n' = 0
abbrev Zfg (r_:((List Tunit)×Bool)) (F_:(List Int)→Option (Tx×Bool)) (o:(Tx×Bool)) (R_:St→Prop):Prop:=∀(out1:(List Int)) (zout1:Bool) (_:zout1=true→out1=[]),F_ out1=some o→∀ s,Weak 0 s ⟨(ue [(6,(lstV zout1 0 1 out1.length)),(5,(B r_.2))]),(upd e0 0 (lstB zout1 1 (out1.map (eK .u8)))),1⟩→R_ s
abbrev Zal (r_:((List Tunit)×Bool)) (F_:Nat→(List Int)→(List Tunit)→Int→Option (Tx×Bool)) (o:(Tx×Bool)):Nat→St→Prop:=fun k s=>∃(out:(List Int)),∃(v14:(List Tunit)),∃(v16:Int),∃(zout:Bool),(zout=true→out=[])∧∃(zv14:Bool),(zv14=true→v14=[])∧F_ k out v14 v16=some o∧s=⟨(ue [(16,(I v16)),(15,(I (r_.1.length:Int))),(14,(lstV zv14 1 2 v14.length)),(6,(lstV zout 0 1 out.length)),(5,(B r_.2))]),(upd (upd e0 0 (lstB zout 1 (out.map (eK .u8)))) 1 (lstB zv14 2 (v14.map e_Tunit))),2⟩
abbrev Zfh (r_:((List Tunit)×Bool)) (F_:(List Int)→(List Tunit)→Int→Option (Tx×Bool)) (o:(Tx×Bool)) (R_:St→Prop):Prop:=∀(out:(List Int)) (v14:(List Tunit)) (v16:Int) (zout:Bool) (_:zout=true→out=[]) (zv14:Bool) (_:zv14=true→v14=[]),F_ out v14 v16=some o→∀ s,Weak 0 s ⟨(ue [(16,(I v16)),(15,(I (r_.1.length:Int))),(14,(lstV zv14 1 2 v14.length)),(6,(lstV zout 0 1 out.length)),(5,(B r_.2))]),(upd (upd e0 0 (lstB zout 1 (out.map (eK .u8)))) 1 (lstB zv14 2 (v14.map e_Tunit))),2⟩→R_ s
noncomputable def Z16 (r_:((List Tunit)×Bool)) (K0_:(List Int)→Option (Tx×Bool)):Nat→(List Int)→(List Tunit)→Int→Option (Tx×Bool)
 | 0,_,_,_=>none
 | k+1,out,v14,v16 =>
  if decide (v16<(r_.1.length:Int)) then
   (at? v14 v16).bind fun x_ =>
   (app? 1 out [x_.f_c]).bind fun r_1 =>
   (Z16 r_ K0_ k) r_1 v14 (wi (v16+1))
  else
   K0_ out
theorem Zfi {mL:Int}{Q:AExit→St→Prop}{r_:((List Tunit)×Bool)}{K0_:(List Int)→Option (Tx×Bool)}{k:Nat}{out:(List Int)}{v14:(List Tunit)}{v16:Int}{zout:Bool}(hzout:zout=true→out=[]) {zv14:Bool}(hzv14:zv14=true→v14=[]) {o:(Tx×Bool)}(h:Z16 r_ K0_ k out v14 v16=some o)
  (hK0:Zfg r_ K0_ o (Q (.exit 0)))
  (hr:∀ s,Ends a52.results 0 (Zak o) .ret s→Q .ret s) :
  Sv Tryz.prog (GG mL) 0 (.loop a52_c0) Q ⟨(ue [(16,(I v16)),(15,(I (r_.1.length:Int))),(14,(lstV zv14 1 2 v14.length)),(6,(lstV zout 0 1 out.length)),(5,(B r_.2))]),(upd (upd e0 0 (lstB zout 1 (out.map (eK .u8)))) 1 (lstB zv14 2 (v14.map e_Tunit))),2⟩:=by
 refine Sv.loop (I:=Zal r_ (Z16 r_ K0_) o) (fun k s hI=>?_) ⟨out,v14,v16,zout,hzout,zv14,hzv14,h,rfl⟩
 clear h
 clear hzv14 hzout zv14 zout v16 v14 out
 obtain ⟨out,v14,v16,zout,hzout,zv14,hzv14,h,rfl⟩:=hI
 cases k with
 | zero=>cases h
 | succ k =>
 rw [Z16] at h
 have hself:Zfh r_ (Z16 r_ K0_ k) o (rnd 0 (Zal r_ (Z16 r_ K0_) o) k Q):=fun out v14 v16 zout hzout zv14 hzv14 h s hw=>⟨_,k,hw,Nat.lt_succ_self k,out,v14,v16,zout,hzout,zv14,hzv14,h,rfl⟩
 refine ssr<|un1 (v:=(B (decide (v16<(r_.1.length:Int))))) rfl<|dnil<|Sv.seq ?_
 refine Sv.cnd rfl h (fun h=>?_) fun h=>?_
 ·refine Sv.skip<|Sv.seq<|Sv.block<|ssr ?_
  obtain ⟨x_,hx1,h⟩:=bnd h
  refine un1 (v:=(.c (.ref 1 2 v16.toNat 0))) (s_iaddrL rfl rfl hzv14 hx1)<|un1 (v:=(.agg (e_Tunit x_))) (s_loadL (z:=zv14) (e:=e_Tunit) rfl rfl hzv14 hx1 rfl rfl)<|un<|a2v (v:=(.c (.ref 2 2 0 0))) (h' := upd _ 2 (some (.cells 2 [[.val (.int .u8 0),cB false]]))) (n' := 3) rfl rfl hcs<|un<|a2n (h' := upd _ 2 (some (.cells 2 [(e_Tunit x_)]))) (n' := 3) rfl rfl hcs<|dnil<|srg<|un1 rfl<|un1 (v:=(.c (.ref 2 2 0 0))) rfl<|un1 (v:=(.c (.val (.int .u8 x_.f_c)))) rfl<|un<|a2v (v:=(lstV false 3 1 [x_.f_c].length)) (h' := upd _ 3 (lstB false 1 ([x_.f_c].map (eK .u8)))) (n' := 4) rfl rfl hcs ?_
  obtain ⟨r_1,hr2,h⟩:=bnd h
  have hz1:(zout&&[x_.f_c].isEmpty)=true→r_1=[]:=app_nil (z:=zout) (ys:=[x_.f_c]) hzout hr2
  refine un<|a2v rfl (s_app (xs:=out) (ys:=[x_.f_c]) (e:=(eK .u8)) (z:=zout) (b:=0) rfl rfl hzout rfl rfl (slc_lst rfl (List.length_map _).symm (map_nil_of hcs)) hr2) hcs<|un1 rfl<|dnil<|srg<|un1 (v:=(I (wi (v16+1)))) rfl<|un1 rfl<|dnil ?_
  exact hself r_1 v14 (wi (v16+1)) (zout&&[x_.f_c].isEmpty) hz1 zv14 hzv14 h _ (wcn [4,1] rfl (.cf rfl rfl (.cf rfl rfl (.cons rfl (.c (lsr rfl rfl)) (.cons rfl (.c (lsr rfl rfl)) (.cf rfl rfl .nil))))) (.row (by decide) rfl (fr_map fun _=>rfl) (.row (by decide) rfl (fr_map fun _=>rfl) .nil)))
 ·refine Sv.exit ?_
  exact hK0 out zout hzout h _ (wcn [0] rfl (.cons rfl (.c (lsr rfl rfl)) (.cf rfl rfl .nil)) (.row (by decide) rfl (fr_map fun _=>rfl) .nil))
noncomputable def Z3k (s_:Tx):Option (Tx×Bool) :=
 (Z3g s_).bind fun r_ =>
 lim fun kk=>Z16 r_ (fun (out1:(List Int)) => 
   some ((byts out1),r_.2)) kk ([]:List Int) r_.1 0
theorem Zfj {mL:Int}{s_:Tx}{r:(Tx×Bool)}(h:Z3k s_=some r):CPure Tryz.prog (GG mL) 52 [(S s_)] (.tup [(S r.1),(B r.2)]):=by
 refine acalls_of_sv hmix c52 (R:=Zak r) ?_
 unfold Z3k at h
 refine ssr<|un1 rfl<|un1 rfl<|dnil<|ssr<|un1 rfl ?_
 obtain ⟨r_,hr1,h⟩:=bnd h
 refine un<|ac_gen (bs:=[]) («as»:=[(S s_)]) (h2:=_) (h1:=e0) (Za8 hr1) rfl (.cons (avAs_free rfl) .nil) (hsub_refl _) (.nil _) (fun _=>rfl) (by decide) (by decide) (.cons (avAs_free rfl) .nil) .nil ?_
 rintro _ _ _ hn ⟨z_,hz_,rfl,rfl,rfl⟩
 refine ⟨.inl rfl,(upd (rem [] _) 0 (lstB z_ 2 (r_.1.map e_Tunit))),fun hbd=>(m3_cons (m3_row rfl (fr_map fun _=>rfl)) (m3_rem (in_nil _) (.cons (by decide) .nil) hbd)),(.tup [(lstV z_ 0 2 r_.1.length),(B r_.2)]),1,(by cases z_ <;> rfl),rfl,?_⟩
 refine un1 rfl<|un1 (v:=(lstV z_ 0 2 r_.1.length)) rfl<|un1 (v:=(B r_.2)) rfl<|un1 rfl<|un1 rfl<|dnil<|ssr<|un1 rfl<|dnil<|Sv.seq<|ssr<|un1 rfl<|un1 (v:=(I (r_.1.length:Int))) (s_lenL rfl (len_nil_of hz_))<|un1 rfl<|dnil<|Sv.block ?_
 obtain ⟨kk,h⟩:=lim_some h
 refine Sv.weak (wcn [1000,0] rfl (.cf rfl rfl (.cf rfl rfl (.cons rfl (.c (lsr rfl rfl)) (.cons rfl (.c (.same rfl)) (.cf rfl rfl .nil))))) (.row (by decide) rfl (fr_map fun _=>rfl) (.non (by decide) .nil))) (Zfi (fun _=>rfl) hz_ h ?_ (fun s hs=>hs))
 ·intro out1 zout1 hzout1 h _ hw1
  refine Sv.weak hw1<|ssr<|un1 rfl<|un1 (v:=(S (byts out1))) (s_ofBytes (xs:=out1) rfl (slc_lst rfl (List.length_map _).symm (map_nil_of hzout1)))<|un1 rfl<|un1 rfl<|un1 rfl<|dnil<|Sv.ret ?_
  exact rt0 h rfl rfl ⟨rfl,rfl,rfl⟩
def a27_c0:ACode:=(sr [(oP 14 (.bin .lss (.tmp 13) (.tmp 12)))]
 (.seq (.cond (.tmp 14) .skip (.exit 0))
 (.seq (.block 1 (sr [(oP 15 (.iaddr 1 (.tmp 11) (.tmp 13))),(oP 16 (.load false 1 (.tmp 15))),(mV 7 16)]
 (sr [(mV 18 7),(oP 19 (.call 52 [(.tmp 18)])),(mV 17 19),(oP 20 (.ext (.tmp 17) 0)),(oP 21 (.ext (.tmp 17) 1)),(mV 8 20),(mV 9 21)]
 (.region [(mV 22 5),(mV 23 8),(oP 24 (.bslice 1 [(.str [])] 1 [(0,(.tmp 23))])),(oP 25 (.app 1 16 (.tmp 22) (.tmp 24))),(mV 26 4),(mV 27 26),⟨(some 28),(.mov (.tmp 9)),(some (27,true))⟩,(oP 29 (.pick (.tmp 27) (.tmp 28) kF)),(mV 5 25),(mV 4 29)]))))
 (.region [(oP 30 (.bin .add (.tmp 13) (kI 1))),(mV 13 30)]))))
def a27:AFunc:=⟨1,[(.tmp 2),(.tmp 3)],(sr [(oP 2 (.mov (.const (.c (.ro true 1 []))))),(oP 3 (.mov kF))]
 (sr [(oP 4 (.mov kT))]
 (sr [(oP 5 (.mov (.const (.c (.ro true 1 [])))))]
 (.seq (sr [(mV 10 0),(oP 11 (.call 51 [(.tmp 10),(.const (.c (.str [47])))])),(oP 12 (.len (.tmp 11))),(oP 13 (.mov (kI 0)))]
 (.block 0 (.loop a27_c0)))
 (sr [(mV 31 5),(mV 32 4),(mV 2 31),(mV 3 32)]
 .ret)))))⟩
theorem c27:compFunc Tryz.prog 27=some a27:=by kernel_rfl
def Z77 (r:(TT×Bool)):AV→Heap→Nat→Prop:=fun v h' n' => ∃ z0:Bool,(z0=true→r.1=[])∧v=(.tup [(lstV z0 0 1 r.1.length),(B r.2)])∧(h' = (upd e0 0 (lstB z0 1 (r.1.map eStr))))∧n' = 1
abbrev Zfk (F_:Bool→TT→Option (TT×Bool)) (o:(TT×Bool)) (R_:St→Prop):Prop:=∀(all_1:Bool) (out1:TT) (zout1:Bool) (_:zout1=true→out1=[]),F_ all_1 out1=some o→∀ s,Weak 0 s ⟨(ue [(5,(lstV zout1 0 1 out1.length)),(4,(B all_1))]),(upd e0 0 (lstB zout1 1 (out1.map eStr))),1⟩→R_ s
abbrev Zam (r_:TT) (F_:Nat→Bool→TT→TT→Int→Option (TT×Bool)) (o:(TT×Bool)):Nat→St→Prop:=fun k s=>∃(all_:Bool),∃(out:TT),∃(v11:TT),∃(v13:Int),∃(zout:Bool),(zout=true→out=[])∧∃(zv11:Bool),(zv11=true→v11=[])∧F_ k all_ out v11 v13=some o∧s=⟨(ue [(13,(I v13)),(12,(I (r_.length:Int))),(11,(lstV zv11 1 1 v11.length)),(5,(lstV zout 0 1 out.length)),(4,(B all_))]),(upd (upd e0 0 (lstB zout 1 (out.map eStr))) 1 (lstB zv11 1 (v11.map eStr))),2⟩
abbrev Zfl (r_:TT) (F_:Bool→TT→TT→Int→Option (TT×Bool)) (o:(TT×Bool)) (R_:St→Prop):Prop:=∀(all_:Bool) (out:TT) (v11:TT) (v13:Int) (zout:Bool) (_:zout=true→out=[]) (zv11:Bool) (_:zv11=true→v11=[]),F_ all_ out v11 v13=some o→∀ s,Weak 0 s ⟨(ue [(13,(I v13)),(12,(I (r_.length:Int))),(11,(lstV zv11 1 1 v11.length)),(5,(lstV zout 0 1 out.length)),(4,(B all_))]),(upd (upd e0 0 (lstB zout 1 (out.map eStr))) 1 (lstB zv11 1 (v11.map eStr))),2⟩→R_ s
noncomputable def Z1h (r_:TT) (K0_:Bool→TT→Option (TT×Bool)):Nat→Bool→TT→TT→Int→Option (TT×Bool)
 | 0,_,_,_,_=>none
 | k+1,all_,out,v11,v13 =>
  if decide (v13<(r_.length:Int)) then
   (at? v11 v13).bind fun x_ =>
   (Z3k x_).bind fun r_1 =>
   (app? 16 out [r_1.1]).bind fun r_2 =>
   (Z1h r_ K0_ k) (all_&&r_1.2) r_2 v11 (wi (v13+1))
  else
   K0_ all_ out
theorem Zfm {mL:Int}{Q:AExit→St→Prop}{r_:TT}{K0_:Bool→TT→Option (TT×Bool)}{k:Nat}{all_:Bool}{out:TT}{v11:TT}{v13:Int}{zout:Bool}(hzout:zout=true→out=[]) {zv11:Bool}(hzv11:zv11=true→v11=[]) {o:(TT×Bool)}(h:Z1h r_ K0_ k all_ out v11 v13=some o)
  (hK0:Zfk K0_ o (Q (.exit 0)))
  (hr:∀ s,Ends a27.results 0 (Z77 o) .ret s→Q .ret s) :
  Sv Tryz.prog (GG mL) 0 (.loop a27_c0) Q ⟨(ue [(13,(I v13)),(12,(I (r_.length:Int))),(11,(lstV zv11 1 1 v11.length)),(5,(lstV zout 0 1 out.length)),(4,(B all_))]),(upd (upd e0 0 (lstB zout 1 (out.map eStr))) 1 (lstB zv11 1 (v11.map eStr))),2⟩:=by
 refine Sv.loop (I:=Zam r_ (Z1h r_ K0_) o) (fun k s hI=>?_) ⟨all_,out,v11,v13,zout,hzout,zv11,hzv11,h,rfl⟩
 clear h
 clear hzv11 hzout zv11 zout v13 v11 out all_
 obtain ⟨all_,out,v11,v13,zout,hzout,zv11,hzv11,h,rfl⟩:=hI
 cases k with
 | zero=>cases h
 | succ k =>
 rw [Z1h] at h
 have hself:Zfl r_ (Z1h r_ K0_ k) o (rnd 0 (Zam r_ (Z1h r_ K0_) o) k Q):=fun all_ out v11 v13 zout hzout zv11 hzv11 h s hw=>⟨_,k,hw,Nat.lt_succ_self k,all_,out,v11,v13,zout,hzout,zv11,hzv11,h,rfl⟩
 refine ssr<|un1 (v:=(B (decide (v13<(r_.length:Int))))) rfl<|dnil<|Sv.seq ?_
 refine Sv.cnd rfl h (fun h=>?_) fun h=>?_
 ·refine Sv.skip<|Sv.seq<|Sv.block<|ssr ?_
  obtain ⟨x_,hx1,h⟩:=bnd h
  refine un1 (v:=(.c (.ref 1 1 v13.toNat 0))) (s_iaddrL rfl rfl hzv11 hx1)<|un1 (v:=(S x_)) (s_loadL (z:=zv11) (e:=eStr) rfl rfl hzv11 hx1 rfl rfl)<|un1 rfl<|dnil<|ssr<|un1 rfl ?_
  obtain ⟨r_1,hr2,h⟩:=bnd h
  refine un<|ac_pure (Zfj hr2) rfl rfl rfl<|un1 rfl<|un1 (v:=(S r_1.1)) rfl<|un1 (v:=(B r_1.2)) rfl<|un1 rfl<|un1 rfl<|dnil<|srg<|un1 rfl<|un1 rfl<|un<|a2v (v:=(lstV false 2 1 [r_1.1].length)) (h' := upd _ 2 (lstB false 1 ([r_1.1].map eStr))) (n' := 3) rfl rfl hcs ?_
  obtain ⟨r_2,hr3,h⟩:=bnd h
  have hz1:(zout&&[r_1.1].isEmpty)=true→r_2=[]:=app_nil (z:=zout) (ys:=[r_1.1]) hzout hr3
  refine un<|a2v rfl (s_app (xs:=out) (ys:=[r_1.1]) (e:=eStr) (z:=zout) (b:=0) rfl rfl hzout rfl rfl (slc_lst rfl (List.length_map _).symm (map_nil_of hcs)) hr3) hcs<|un1 rfl<|un1 rfl ?_
  refine gjoin 2 (d:=29) (v:=(B (all_&&r_1.2))) (fun X hX=>?_) ?_
  ·refine split2 (fun hc2=>?_) (fun hc2=>?_)
   ·refine gt rfl<|a1 rfl<|un1 (v:=(B r_1.2)) rfl<|dnil ?_
    exact hX _ (.putEq (by rw [hc2]; rfl) (.skp (.putEq (by rw [hc2]) (.refl _)) rfl))
   ·refine gs rfl rfl<|un1 (v:=(B false)) rfl<|dnil ?_
    exact hX _ (.putEq (by rw [hc2]; rfl) (.skp (.putEq (by rw [hc2]) (.refl _)) rfl))
  refine un1 rfl<|un1 rfl<|dnil<|srg<|un1 (v:=(I (wi (v13+1)))) rfl<|un1 rfl<|dnil ?_
  exact hself (all_&&r_1.2) r_2 v11 (wi (v13+1)) (zout&&[r_1.1].isEmpty) hz1 zv11 hzv11 h _ (wcn [3,1] rfl (.cf rfl rfl (.cf rfl rfl (.cons rfl (.c (lsr rfl rfl)) (.cons rfl (.c (lsr rfl rfl)) (.cf rfl rfl .nil))))) (.row (by decide) rfl (fr_map fun _=>rfl) (.row (by decide) rfl (fr_map fun _=>rfl) .nil)))
 ·refine Sv.exit ?_
  exact hK0 all_ out zout hzout h _ (wcn [0] rfl (.cons rfl (.c (lsr rfl rfl)) (.cf rfl rfl .nil)) (.row (by decide) rfl (fr_map fun _=>rfl) .nil))
noncomputable def Z3l (s_:Tx):Option (TT×Bool) :=
 (Z5b s_ [47]).bind fun r_ =>
 lim fun kk=>Z1h r_ (fun (all_1:Bool) (out1:TT) => 
   some (out1,all_1)) kk true ([]:TT) r_ 0
theorem Zan {mL:Int}{s_:Tx}{r:(TT×Bool)}(h:Z3l s_=some r):ACalls Tryz.prog (GG mL) 27 [(S s_)] e0 0 (Z77 r):=by
 refine acalls_of_sv hmix c27 (R:=Z77 r) ?_
 unfold Z3l at h
 refine ssr<|un1 rfl<|un1 rfl<|dnil<|ssr<|un1 rfl<|dnil<|ssr<|un1 rfl<|dnil<|Sv.seq<|ssr<|un1 rfl ?_
 obtain ⟨r_,hr1,h⟩:=bnd h
 refine un<|ac_gen (bs:=[]) («as»:=[(S s_),(S [47])]) (h2:=_) (h1:=e0) (Z6a hr1) rfl (.cons (avAs_free rfl) (.cons (avAs_free rfl) .nil)) (hsub_refl _) (.nil _) (fun _=>rfl) (by decide) (by decide) (.cons (avAs_free rfl) (.cons (avAs_free rfl) .nil)) .nil ?_
 rintro _ _ _ hn ⟨z_,hz_,rfl,rfl,rfl⟩
 refine ⟨.inl rfl,(upd (rem [] _) 0 (lstB z_ 1 (r_.map eStr))),fun hbd=>(m3_cons (m3_row rfl (fr_map fun _=>rfl)) (m3_rem (in_nil _) (.cons (by decide) .nil) hbd)),(lstV z_ 0 1 r_.length),1,(by cases z_ <;> rfl),rfl,?_⟩
 refine un1 (v:=(I (r_.length:Int))) (s_lenL rfl (len_nil_of hz_))<|un1 rfl<|dnil<|Sv.block ?_
 obtain ⟨kk,h⟩:=lim_some h
 refine Sv.weak (wcn [1000,0] rfl (.cf rfl rfl (.cf rfl rfl (.cons rfl (.c (lsr rfl rfl)) (.cons rfl (.c (.same rfl)) (.cf rfl rfl .nil))))) (.row (by decide) rfl (fr_map fun _=>rfl) (.non (by decide) .nil))) (Zfm (fun _=>rfl) hz_ h ?_ (fun s hs=>hs))
 ·intro all_1 out1 zout1 hzout1 h _ hw1
  refine Sv.weak hw1<|ssr<|un1 rfl<|un1 rfl<|un1 rfl<|un1 rfl<|dnil<|Sv.ret ?_
  replace h:=Option.some.inj h
  subst h
  exact ⟨_,.refl _,_,rfl,⟨upd e0 0 (some (.tup [(lstV zout1 0 1 out1.length),(B all_1)])),(upd e0 0 (lstB zout1 1 (out1.map eStr))),1⟩,(.tup [(lstV zout1 0 1 out1.length),(B all_1)]),weak_canon2 [0] [0] (by decide) (by decide) nlz (.cons (by decide) .nil) (.cons rfl (avAs_tup (.cons (.c (lsr rfl rfl)) (.cons (avAs_free rfl) .nil))) .nil) (.row (by decide) rfl (fr_map fun _=>rfl) .nil),rfl,zout1,hzout1,rfl,rfl,rfl⟩
def a29_c0:ACode:=(.region [(oP 36 (.bin .add (.tmp 8) (kI 1))),(mV 8 36)])
def a29_c1:ACode:=(sr [(oP 9 (.bin .lss (.tmp 8) (.tmp 7)))]
 (.seq (.cond (.tmp 9) .skip (.exit 0))
 (.seq (.block 1 (sr [(oP 10 (.iaddr 1 (.tmp 6) (.tmp 8))),(oP 11 (.load false 1 (.tmp 10))),(mV 5 11)]
 (.block 2 (sr [(mV 13 5),(oP 14 (.bin .eql (.tmp 13) (.const (.c (.str [46,46]))))),(mV 15 14),⟨(some 16),(.mov (.tmp 3)),(some (15,true))⟩,⟨(some 17),(.len (.tmp 16)),(some (15,true))⟩,⟨(some 18),(.bin .gtr (.tmp 17) (kI 0)),(some (15,true))⟩,(oP 19 (.pick (.tmp 15) (.tmp 18) kF)),(mV 12 19)]
 (.cond (.tmp 12) (.region [(mV 20 3),(mV 21 3),(oP 22 (.len (.tmp 21))),(oP 23 (.bin .sub (.tmp 22) (kI 1))),(oP 24 (.slSl 1 (.tmp 20) none (some (.tmp 23)) none)),(mV 3 24)]) (sr [(mV 26 5),(oP 27 (.bin .neq (.tmp 26) (.const (.c (.str [46]))))),(mV 28 27),⟨(some 29),(.mov (.tmp 5)),(some (28,true))⟩,⟨(some 30),(.bin .neq (.tmp 29) (.const (.c (.str [46,46])))),(some (28,true))⟩,(oP 31 (.pick (.tmp 28) (.tmp 30) kF)),(mV 25 31)]
 (.cond (.tmp 25) (.region [(mV 32 3),(mV 33 5),(oP 34 (.bslice 1 [(.str [])] 1 [(0,(.tmp 33))])),(oP 35 (.app 1 16 (.tmp 32) (.tmp 34))),(mV 3 35)]) .skip)))))))
 a29_c0)))
def a29_c2:ACode:=(.cond (.tmp 62) (.region [(mV 63 3),(oP 64 (.bslice 1 [(.str [])] 1 [(0,(.const (.c (.str []))))])),(oP 65 (.app 1 16 (.tmp 63) (.tmp 64))),(mV 3 65)]) .skip)
def a29_c3:ACode:=(sr [(mV 66 3),(mV 2 66)]
 .ret)
def a29:AFunc:=⟨1,[(.tmp 2)],(sr [(oP 2 (.mov (.const (.c (.ro true 1 [])))))]
 (sr [(oP 3 (.mov (.const (.c (.ro true 1 [])))))]
 (.seq (sr [(mV 6 0),(oP 7 (.len (.tmp 6))),(oP 8 (.mov (kI 0)))]
 (.block 0 (.loop a29_c1)))
 (.seq (sr [(mV 37 0),(oP 38 (.len (.tmp 37))),(oP 39 (.bin .gtr (.tmp 38) (kI 0))),(mV 40 39),⟨(some 41),(.mov (.tmp 0)),(some (40,true))⟩,⟨(some 42),(.mov (.tmp 0)),(some (40,true))⟩,⟨(some 43),(.len (.tmp 42)),(some (40,true))⟩,⟨(some 44),(.bin .sub (.tmp 43) (kI 1)),(some (40,true))⟩,⟨(some 45),(.iaddr 1 (.tmp 41) (.tmp 44)),(some (40,true))⟩,⟨(some 46),(.load false 1 (.tmp 45)),(some (40,true))⟩,⟨(some 47),(.bin .eql (.tmp 46) (.const (.c (.str [46])))),(some (40,true))⟩,⟨(some 48),(.mov (.tmp 47)),(some (40,true))⟩,⟨(some 49),(.mov (.tmp 0)),(some (48,false))⟩,⟨(some 50),(.mov (.tmp 0)),(some (48,false))⟩,⟨(some 51),(.len (.tmp 50)),(some (48,false))⟩,⟨(some 52),(.bin .sub (.tmp 51) (kI 1)),(some (48,false))⟩,⟨(some 53),(.iaddr 1 (.tmp 49) (.tmp 52)),(some (48,false))⟩,⟨(some 54),(.load false 1 (.tmp 53)),(some (48,false))⟩,⟨(some 55),(.bin .eql (.tmp 54) (.const (.c (.str [46,46])))),(some (48,false))⟩,⟨(some 56),(.pick (.tmp 48) kT (.tmp 55)),(some (40,true))⟩,(oP 57 (.pick (.tmp 40) (.tmp 56) kF)),(mV 58 57),⟨(some 59),(.mov (.tmp 3)),(some (58,false))⟩,⟨(some 60),(.len (.tmp 59)),(some (58,false))⟩,⟨(some 61),(.bin .eql (.tmp 60) (kI 0)),(some (58,false))⟩,(oP 62 (.pick (.tmp 58) kT (.tmp 61)))]
 a29_c2)
 a29_c3))))⟩
theorem c29:compFunc Tryz.prog 29=some a29:=by kernel_rfl
def Z2o (r:TT):AV→Heap→Nat→Prop:=fun v h' n' => ∃ z0:Bool,(z0=true→r=[])∧v=(lstV z0 0 1 r.length)∧(h' = (upd e0 0 (lstB z0 1 (r.map eStr))))∧n' = 1
abbrev Zao (l_:TT) (F_:TT→Int→Option TT) (o:TT) (R_:St→Prop):Prop:=∀(out:TT) (v8:Int) (zout:Bool) (_:zout=true→out=[]),F_ out v8=some o→∀ s,Weak 0 s ⟨(ue [(8,(I v8)),(7,(I (l_.length:Int))),(6,(.c (.ro false 1 (l_.map eStr)))),(3,(lstV zout 0 1 out.length)),(0,(.c (.ro false 1 (l_.map eStr))))]),(upd e0 0 (lstB zout 1 (out.map eStr))),1⟩→R_ s
abbrev Zap (l_:TT) (F_:TT→Option TT) (o:TT) (R_:St→Prop):Prop:=∀(out1:TT) (zout1:Bool) (_:zout1=true→out1=[]),F_ out1=some o→∀ s,Weak 0 s ⟨(ue [(3,(lstV zout1 0 1 out1.length)),(0,(.c (.ro false 1 (l_.map eStr))))]),(upd e0 0 (lstB zout1 1 (out1.map eStr))),1⟩→R_ s
noncomputable def Z2p (v8:Int) (l_:TT) (self:TT→Int→Option TT) (K0_:TT→Option TT) (out2:TT):Option TT :=
 self out2 (wi (v8+1))
theorem Z78 {mL:Int}{Q:AExit→St→Prop}{v8:Int}{l_:TT}{self:TT→Int→Option TT}{K0_:TT→Option TT}{out2:TT}{zout2:Bool}(hzout2:zout2=true→out2=[]) {o:TT}(h:Z2p v8 l_ self K0_ out2=some o)
  (hself:Zao l_ self o (Q .normal))
  (hK0:Zap l_ K0_ o (Q (.exit 0)))
  (hr:∀ s,Ends a29.results 0 (Z2o o) .ret s→Q .ret s) :
  Sv Tryz.prog (GG mL) 0 a29_c0 Q ⟨(ue [(8,(I v8)),(7,(I (l_.length:Int))),(6,(.c (.ro false 1 (l_.map eStr)))),(3,(lstV zout2 0 1 out2.length)),(0,(.c (.ro false 1 (l_.map eStr))))]),(upd e0 0 (lstB zout2 1 (out2.map eStr))),1⟩:=by
 unfold Z2p at h
 refine srg<|un1 (v:=(I (wi (v8+1)))) rfl<|un1 rfl<|dnil ?_
 exact hself out2 (wi (v8+1)) zout2 hzout2 h _ (wcn [0] rfl (.cf rfl rfl (.cf rfl rfl (.cf rfl rfl (.cons rfl (.c (lsr rfl rfl)) (.cf rfl rfl .nil))))) (.row (by decide) rfl (fr_map fun _=>rfl) .nil))
abbrev Zaq (l_:TT) (F_:Nat→TT→Int→Option TT) (o:TT):Nat→St→Prop:=fun k s=>∃(out:TT),∃(v8:Int),∃(zout:Bool),(zout=true→out=[])∧F_ k out v8=some o∧s=⟨(ue [(8,(I v8)),(7,(I (l_.length:Int))),(6,(.c (.ro false 1 (l_.map eStr)))),(3,(lstV zout 0 1 out.length)),(0,(.c (.ro false 1 (l_.map eStr))))]),(upd e0 0 (lstB zout 1 (out.map eStr))),1⟩
noncomputable def Zg (l_:TT) (K0_:TT→Option TT):Nat→TT→Int→Option TT
 | 0,_,_=>none
 | k+1,out,v8 =>
  if decide (v8<(l_.length:Int)) then
   (at? l_ v8).bind fun x_ =>
   if ((decide (x_=[46,46]))&&(decide (0<(out.length:Int)))) then
    (sub? out 0 (wi ((out.length:Int) - 1))).bind fun r_ =>
    Z2p v8 l_ (Zg l_ K0_ k) K0_ r_
   else
    if ((!decide (x_=[46]))&&(!decide (x_=[46,46]))) then
     (app? 16 out [x_]).bind fun r_1 =>
     Z2p v8 l_ (Zg l_ K0_ k) K0_ r_1
    else
     Z2p v8 l_ (Zg l_ K0_ k) K0_ out
  else
   K0_ out
theorem Zfn {mL:Int}{Q:AExit→St→Prop}{l_:TT}{K0_:TT→Option TT}{k:Nat}{out:TT}{v8:Int}{zout:Bool}(hzout:zout=true→out=[]) {o:TT}(h:Zg l_ K0_ k out v8=some o)
  (hK0:Zap l_ K0_ o (Q (.exit 0)))
  (hr:∀ s,Ends a29.results 0 (Z2o o) .ret s→Q .ret s) :
  Sv Tryz.prog (GG mL) 0 (.loop a29_c1) Q ⟨(ue [(8,(I v8)),(7,(I (l_.length:Int))),(6,(.c (.ro false 1 (l_.map eStr)))),(3,(lstV zout 0 1 out.length)),(0,(.c (.ro false 1 (l_.map eStr))))]),(upd e0 0 (lstB zout 1 (out.map eStr))),1⟩:=by
 refine Sv.loop (I:=Zaq l_ (Zg l_ K0_) o) (fun k s hI=>?_) ⟨out,v8,zout,hzout,h,rfl⟩
 clear h
 clear hzout zout v8 out
 obtain ⟨out,v8,zout,hzout,h,rfl⟩:=hI
 cases k with
 | zero=>cases h
 | succ k =>
 rw [Zg] at h
 have hself:Zao l_ (Zg l_ K0_ k) o (rnd 0 (Zaq l_ (Zg l_ K0_) o) k Q):=fun out v8 zout hzout h s hw=>⟨_,k,hw,Nat.lt_succ_self k,out,v8,zout,hzout,h,rfl⟩
 refine ssr<|un1 (v:=(B (decide (v8<(l_.length:Int))))) rfl<|dnil<|Sv.seq ?_
 refine Sv.cnd rfl h (fun h=>?_) fun h=>?_
 ·refine Sv.skip<|Sv.seq<|Sv.block<|ssr ?_
  obtain ⟨x_,hx1,h⟩:=bnd h
  refine un1 (v:=(.c (.rop [.str x_]))) (s_iaddr (e:=eStr) (xs:=l_) rfl rfl hx1)<|un1 (v:=(S x_)) rfl<|un1 rfl<|dnil<|Sv.block<|ssr<|un1 rfl<|un1 (v:=(B (decide (x_=[46,46])))) rfl<|un1 rfl ?_
  refine gjoin 4 (d:=19) (v:=(B ((decide (x_=[46,46]))&&(decide (0<(out.length:Int)))))) (fun X hX=>?_) ?_
  ·refine split2 (fun hc2=>?_) (fun hc2=>?_)
   ·refine gt rfl<|a1 rfl<|gt rfl<|a1 (v:=(I (out.length:Int))) (s_lenL rfl (len_nil_of hzout))<|gt rfl<|a1 (v:=(B (decide (0<(out.length:Int))))) rfl<|un1 (v:=(B (decide (0<(out.length:Int))))) rfl<|dnil ?_
    exact hX _ (.putEq (by rw [hc2]; rfl) (.skp (.skp (.skp (.putEq (by rw [hc2]) (.refl _)) rfl) rfl) rfl))
   ·refine gs rfl rfl<|gs rfl rfl<|gs rfl rfl<|un1 (v:=(B false)) rfl<|dnil ?_
    exact hX _ (.putEq (by rw [hc2]; rfl) (.skp (.skp (.skp (.putEq (by rw [hc2]) (.refl _)) rfl) rfl) rfl))
  refine un1 rfl<|dnil ?_
  refine Sv.cnd rfl h (fun h=>?_) fun h=>?_
  ·refine srg<|un1 rfl<|un1 rfl<|un1 (v:=(I (out.length:Int))) (s_lenL rfl (len_nil_of hzout))<|un1 (v:=(I (wi ((out.length:Int) - 1)))) rfl ?_
   obtain ⟨r_,hx2,h⟩:=bnd h
   refine un1 (v:=(cutV zout 0 1 r_.length out.length)) (s_cutL rfl hzout rfl rfl hx2)<|dweak (show Weak 0 _ ⟨(ue [(24,(lstV zout 0 1 r_.length)),(23,(I (wi ((out.length:Int) - 1)))),(22,(I (out.length:Int))),(19,(B ((decide (x_=[46,46]))&&(decide (0<(out.length:Int)))))),(15,(B (decide (x_=[46,46])))),(14,(B (decide (x_=[46,46])))),(13,(S x_)),(12,(B ((decide (x_=[46,46]))&&(decide (0<(out.length:Int)))))),(11,(S x_)),(10,(.c (.rop [.str x_]))),(9,(B (decide (v8<(l_.length:Int))))),(8,(I v8)),(7,(I (l_.length:Int))),(6,(.c (.ro false 1 (l_.map eStr)))),(5,(S x_)),(0,(.c (.ro false 1 (l_.map eStr))))]),(upd e0 0 (lstB zout 1 (r_.map eStr))),1⟩ from (wcn [0] rfl (.cons rfl (.c (cut_ren rfl (by decide) (cut_le hx2))) (.cf rfl rfl (.cf rfl rfl (.cf rfl rfl (.cf rfl rfl (.cf rfl rfl (.cf rfl rfl (.cf rfl rfl (.cf rfl rfl (.cf rfl rfl (.cf rfl rfl (.cf rfl rfl (.cf rfl rfl (.cf rfl rfl (.cf rfl rfl (.cf rfl rfl .nil)))))))))))))))) (.rowP (by decide) rfl (cutP hx2) (fr_map fun _=>rfl) .nil)))<|un1 rfl<|dnil ?_
   exact Sv.weak (wcn [0] rfl (.cf rfl rfl (.cf rfl rfl (.cf rfl rfl (.cons rfl (.c (lsr rfl rfl)) (.cf rfl rfl .nil))))) (.row (by decide) rfl (fr_map fun _=>rfl) .nil)) (Z78 (cut_nil hzout hx2) h hself hK0 hr)
  ·refine ssr<|un1 rfl<|un1 (v:=(B (!decide (x_=[46])))) rfl<|un1 rfl ?_
   refine gjoin 3 (d:=31) (v:=(B ((!decide (x_=[46]))&&(!decide (x_=[46,46]))))) (fun X hX=>?_) ?_
   ·refine split2 (fun hc4=>?_) (fun hc4=>?_)
    ·refine gt rfl<|a1 rfl<|gt rfl<|a1 (v:=(B (!decide (x_=[46,46])))) rfl<|un1 (v:=(B (!decide (x_=[46,46])))) rfl<|dnil ?_
     exact hX _ (.putEq (by rw [hc4]; rfl) (.skp (.skp (.putEq (by rw [hc4]) (.refl _)) rfl) rfl))
    ·refine gs rfl rfl<|gs rfl rfl<|un1 (v:=(B false)) rfl<|dnil ?_
     exact hX _ (.putEq (by rw [hc4]; rfl) (.skp (.skp (.putEq (by rw [hc4]) (.refl _)) rfl) rfl))
   refine un1 rfl<|dnil ?_
   refine Sv.cnd rfl h (fun h=>?_) fun h=>?_
   ·refine srg<|un1 rfl<|un1 rfl<|un<|a2v (v:=(lstV false 1 1 [x_].length)) (h' := upd _ 1 (lstB false 1 ([x_].map eStr))) (n' := 2) rfl rfl hcs ?_
    obtain ⟨r_1,hr1,h⟩:=bnd h
    have hz1:(zout&&[x_].isEmpty)=true→r_1=[]:=app_nil (z:=zout) (ys:=[x_]) hzout hr1
    refine un<|a2v rfl (s_app (xs:=out) (ys:=[x_]) (e:=eStr) (z:=zout) (b:=0) rfl rfl hzout rfl rfl (slc_lst rfl (List.length_map _).symm (map_nil_of hcs)) hr1) hcs<|un1 rfl<|dnil ?_
    exact Sv.weak (wcn [2] rfl (.cf rfl rfl (.cf rfl rfl (.cf rfl rfl (.cons rfl (.c (lsr rfl rfl)) (.cf rfl rfl .nil))))) (.row (by decide) rfl (fr_map fun _=>rfl) .nil)) (Z78 hz1 h hself hK0 hr)
   ·refine Sv.skip ?_
    exact Sv.weak (wcn [0] rfl (.cf rfl rfl (.cf rfl rfl (.cf rfl rfl (.cons rfl (.c (lsr rfl rfl)) (.cf rfl rfl .nil))))) (.row (by decide) rfl (fr_map fun _=>rfl) .nil)) (Z78 hzout h hself hK0 hr)
 ·refine Sv.exit ?_
  exact hK0 out zout hzout h _ (wcn [0] rfl (.cons rfl (.c (lsr rfl rfl)) (.cf rfl rfl .nil)) (.row (by decide) rfl (fr_map fun _=>rfl) .nil))
noncomputable def Z51 (out3:TT):Option TT :=
 some out3
theorem Zar {mL:Int}{out3:TT}{zout3:Bool}(hzout3:zout3=true→out3=[]) {o:TT}(h:Z51 out3=some o) :
  Sv Tryz.prog (GG mL) 0 a29_c3 (Ends a29.results 0 (Z2o o)) ⟨(upd e0 3 (some (lstV zout3 0 1 out3.length))),(upd e0 0 (lstB zout3 1 (out3.map eStr))),1⟩:=by
 unfold Z51 at h
 refine ssr<|un1 rfl<|un1 rfl<|dnil<|Sv.ret ?_
 replace h:=Option.some.inj h
 subst h
 exact ⟨_,.refl _,_,rfl,⟨upd e0 0 (some (lstV zout3 0 1 out3.length)),(upd e0 0 (lstB zout3 1 (out3.map eStr))),1⟩,(lstV zout3 0 1 out3.length),weak_canon2 [0] [0] (by decide) (by decide) nlz (.cons (by decide) .nil) (.cons rfl (.c (lsr rfl rfl)) .nil) (.row (by decide) rfl (fr_map fun _=>rfl) .nil),rfl,zout3,hzout3,rfl,rfl,rfl⟩
abbrev Zfo (mL:Int) (o:TT):AExit→St→Prop:=AThen (Sv Tryz.prog (GG mL) 0 a29_c3 (Ends a29.results 0 (Z2o o))) (Ends a29.results 0 (Z2o o))
noncomputable def Z2q (out4:TT) (v62:Bool):Option TT :=
 if v62 then
  (app? 16 out4 ([[]]:TT)).bind fun r_2 =>
  Z51 r_2
 else
  Z51 out4
theorem Z79 {mL:Int}{out4:TT}{v62:Bool}{zout4:Bool}(hzout4:zout4=true→out4=[]) {o:TT}(h:Z2q out4 v62=some o) :
  Sv Tryz.prog (GG mL) 0 a29_c2 (Zfo mL o) ⟨(ue [(62,(B v62)),(3,(lstV zout4 0 1 out4.length))]),(upd e0 0 (lstB zout4 1 (out4.map eStr))),1⟩:=by
 unfold Z2q at h
 refine Sv.cnd rfl h (fun h=>?_) fun h=>?_
 ·refine srg<|un1 rfl<|un<|a2v (v:=(lstV false 1 1 ([[]]:TT).length)) (h' := upd _ 1 (lstB false 1 (([[]]:TT).map eStr))) (n' := 2) rfl rfl hcs ?_
  obtain ⟨r_2,hr2,h⟩:=bnd h
  have hz2:(zout4&&([[]]:TT).isEmpty)=true→r_2=[]:=app_nil (z:=zout4) (ys:=([[]]:TT)) hzout4 hr2
  refine un<|a2v rfl (s_app (xs:=out4) (ys:=([[]]:TT)) (e:=eStr) (z:=zout4) (b:=0) rfl rfl hzout4 rfl rfl (slc_lst rfl (List.length_map _).symm (map_nil_of hcs)) hr2) hcs<|un1 rfl<|dnil ?_
  exact Sv.weak (wcn [2] rfl (.cons rfl (.c (lsr rfl rfl)) .nil) (.row (by decide) rfl (fr_map fun _=>rfl) .nil)) (Zar hz2 h)
 ·refine Sv.skip ?_
  exact Sv.weak (wcn [0] rfl (.cons rfl (.c (lsr rfl rfl)) .nil) (.row (by decide) rfl (fr_map fun _=>rfl) .nil)) (Zar hzout4 h)
noncomputable def Z3m (l_:TT):Option TT :=
 lim fun kk=>Zg l_ (fun (out1:TT) => 
   if decide (0<(l_.length:Int)) then
    (at? l_ (wi ((l_.length:Int) - 1))).bind fun x_1 =>
    if decide (x_1=[46]) then
     Z2q out1 true
    else
     (at? l_ (wi ((l_.length:Int) - 1))).bind fun x_2 =>
     Z2q out1 ((decide (x_2=[46,46]))||(decide ((out1.length:Int)=0)))
   else
    Z2q out1 (decide ((out1.length:Int)=0))) kk ([]:TT) 0
theorem Zas {mL:Int}{l_:TT}{r:TT}(h:Z3m l_=some r):ACalls Tryz.prog (GG mL) 29 [(.c (.ro false 1 (l_.map eStr)))] e0 0 (Z2o r):=by
 refine acalls_of_sv hmix c29 (R:=Z2o r) ?_
 unfold Z3m at h
 refine ssr<|un1 rfl<|dnil<|ssr<|un1 rfl<|dnil<|Sv.seq<|ssr<|un1 rfl<|un1 (v:=(I (l_.length:Int))) (s_len (e:=eStr) (xs:=l_) rfl)<|un1 rfl<|dnil<|Sv.block ?_
 obtain ⟨kk,h⟩:=lim_some h
 refine Sv.weak (wcn [1000] rfl (.cf rfl rfl (.cf rfl rfl (.cf rfl rfl (.cons rfl (.c (.same rfl)) (.cf rfl rfl .nil))))) (.non (by decide) .nil)) (Zfn (fun _=>rfl) h ?_ (fun s hs=>hs))
 ·intro out1 zout1 hzout1 h _ hw1
  refine Sv.weak hw1<|Sv.seq<|ssr<|un1 rfl<|un1 (v:=(I (l_.length:Int))) (s_len (e:=eStr) (xs:=l_) rfl)<|un1 (v:=(B (decide (0<(l_.length:Int))))) rfl<|un1 rfl ?_
  refine spl h (fun h=>?_) fun h=>?_
  ·refine gt rfl<|a1 rfl<|gt rfl<|a1 rfl<|gt rfl<|a1 (v:=(I (l_.length:Int))) (s_len (e:=eStr) (xs:=l_) rfl)<|gt rfl<|a1 (v:=(I (wi ((l_.length:Int) - 1)))) rfl ?_
   obtain ⟨x_1,hx3,h⟩:=bnd h
   refine gt rfl<|a1 (v:=(.c (.rop [.str x_1]))) (s_iaddr (e:=eStr) (xs:=l_) rfl rfl hx3)<|gt rfl<|a1 (v:=(S x_1)) rfl<|gt rfl<|a1 (v:=(B (decide (x_1=[46])))) rfl<|gt rfl<|a1 rfl ?_
   refine spl h (fun h=>?_) fun h=>?_
   ·repeat (first | refine gu rfl ?_ | refine gs rfl rfl ?_)
    refine gt rfl<|a1 (v:=(B true)) rfl<|un1 (v:=(B true)) rfl<|un1 rfl<|gs rfl rfl<|gs rfl rfl<|gs rfl rfl<|un1 (v:=(B true)) rfl<|dnil ?_
    exact Sv.weak (wcn [0] rfl (.cf rfl rfl (.cons rfl (.c (lsr rfl rfl)) .nil)) (.row (by decide) rfl (fr_map fun _=>rfl) .nil)) (Z79 hzout1 h)
   ·refine gt rfl<|a1 rfl<|gt rfl<|a1 rfl<|gt rfl<|a1 (v:=(I (l_.length:Int))) (s_len (e:=eStr) (xs:=l_) rfl)<|gt rfl<|a1 (v:=(I (wi ((l_.length:Int) - 1)))) rfl ?_
    obtain ⟨x_2,hx4,h⟩:=bnd h
    refine gt rfl<|a1 (v:=(.c (.rop [.str x_2]))) (s_iaddr (e:=eStr) (xs:=l_) rfl rfl hx4)<|gt rfl<|a1 (v:=(S x_2)) rfl<|gt rfl<|a1 (v:=(B (decide (x_2=[46,46])))) rfl<|gt rfl<|a1 (v:=(B (decide (x_2=[46,46])))) rfl<|un1 (v:=(B (decide (x_2=[46,46])))) rfl<|un1 rfl ?_
    refine gjoin 4 (d:=62) (v:=(B ((decide (x_2=[46,46]))||(decide ((out1.length:Int)=0))))) (fun X hX=>?_) ?_
    ·refine split2 (fun hc9=>?_) (fun hc9=>?_)
     ·refine gs rfl rfl<|gs rfl rfl<|gs rfl rfl<|un1 (v:=(B true)) rfl<|dnil ?_
      exact hX _ (.putEq (by rw [hc9]; rfl) (.skp (.skp (.skp (.putEq (by rw [hc9]) (.refl _)) rfl) rfl) rfl))
     ·refine gt rfl<|a1 rfl<|gt rfl<|a1 (v:=(I (out1.length:Int))) (s_lenL rfl (len_nil_of hzout1))<|gt rfl<|a1 (v:=(B (decide ((out1.length:Int)=0)))) rfl<|un1 (v:=(B (decide ((out1.length:Int)=0)))) rfl<|dnil ?_
      exact hX _ (.putEq (by rw [hc9]; rfl) (.skp (.skp (.skp (.putEq (by rw [hc9]) (.refl _)) rfl) rfl) rfl))
    refine dnil ?_
    exact Sv.weak (wcn [0] rfl (.cf rfl rfl (.cons rfl (.c (lsr rfl rfl)) .nil)) (.row (by decide) rfl (fr_map fun _=>rfl) .nil)) (Z79 hzout1 h)
  ·repeat (first | refine gu rfl ?_ | refine gs rfl rfl ?_)
   refine un1 (v:=(B false)) rfl<|un1 rfl<|gt rfl<|a1 rfl<|gt rfl<|a1 (v:=(I (out1.length:Int))) (s_lenL rfl (len_nil_of hzout1))<|gt rfl<|a1 (v:=(B (decide ((out1.length:Int)=0)))) rfl<|un1 (v:=(B (decide ((out1.length:Int)=0)))) rfl<|dnil ?_
   exact Sv.weak (wcn [0] rfl (.cf rfl rfl (.cons rfl (.c (lsr rfl rfl)) .nil)) (.row (by decide) rfl (fr_map fun _=>rfl) .nil)) (Z79 hzout1 h)
def a23_c0:ACode:=(.cond (.tmp 37) (sr [(mV 38 4),(oP 39 (.callv (.tmp 38) [])),(oP 40 (.ext (.tmp 39) 0)),(oP 41 (.ext (.tmp 39) 1)),(oN (.store 8 (.tmp 2) (.tmp 40))),(mV 3 41)]
 .ret) .skip)
def a23_c1:ACode:=(sr [(oP 76 (.bin .lss (.tmp 75) (.tmp 74)))]
 (.seq (.cond (.tmp 76) .skip (.exit 0))
 (.seq (.block 1 (sr [(oP 77 (.iaddr 1 (.tmp 73) (.tmp 75))),(oP 78 (.load false 1 (.tmp 77))),(mV 14 78)]
 (.seq (sr [(mV 79 14),(oP 80 (.conv .i64 (.tmp 79))),(oP 81 (.call 14 [(.tmp 80),(kI 48),(kI 57)])),(oP 82 (.un .not (.tmp 81))),(mV 83 82),⟨(some 84),(.mov (.tmp 11)),(some (83,false))⟩,⟨(some 85),(.lenS (.tmp 84)),(some (83,false))⟩,⟨(some 86),(.bin .gtr (.tmp 85) (kI 6)),(some (83,false))⟩,(oP 87 (.pick (.tmp 83) kT (.tmp 86)))]
 (.cond (.tmp 87) (sr [(mV 88 4),(oP 89 (.callv (.tmp 88) [])),(oP 90 (.ext (.tmp 89) 0)),(oP 91 (.ext (.tmp 89) 1)),(oN (.store 8 (.tmp 2) (.tmp 90))),(mV 3 91)]
 .ret) .skip))
 (.region [(mV 92 12),(oP 93 (.bin .mul (kI 10) (.tmp 92))),(mV 94 14),(oP 95 (.bin .sub (.tmp 94) (.const (.c (.val (.int .u8 48)))))),(oP 96 (.conv .i64 (.tmp 95))),(oP 97 (.bin .add (.tmp 93) (.tmp 96))),(mV 12 97)]))))
 (.region [(oP 98 (.bin .add (.tmp 75) (kI 1))),(mV 75 98)]))))
def a23_c2:ACode:=(sr [(mV 125 9),(oP 126 (.call 26 [(.tmp 7),(.tmp 125)])),(mV 124 126),(oP 127 (.ext (.tmp 124) 0)),(oP 128 (.ext (.tmp 124) 1)),(mV 15 127),(mV 16 128)]
 (sr [(mV 130 15),(oP 131 (.call 28 [(.tmp 130),(.const (.c (.str [47])))])),(oP 132 (.call 27 [(.tmp 131)])),(mV 129 132),(oP 133 (.ext (.tmp 129) 0)),(oP 134 (.ext (.tmp 129) 1)),(mV 17 133),(mV 18 134)]
 (.seq (sr [(mV 135 16),(oP 136 (.un .not (.tmp 135))),(mV 137 136),⟨(some 138),(.mov (.tmp 18)),(some (137,false))⟩,⟨(some 139),(.un .not (.tmp 138)),(some (137,false))⟩,(oP 140 (.pick (.tmp 137) kT (.tmp 139)))]
 (.cond (.tmp 140) (sr [(mV 141 4),(oP 142 (.callv (.tmp 141) [])),(oP 143 (.ext (.tmp 142) 0)),(oP 144 (.ext (.tmp 142) 1)),(oN (.store 8 (.tmp 2) (.tmp 143))),(mV 3 144)]
 .ret) .skip))
 (sr [(mV 145 17),(oP 146 (.call 29 [(.tmp 145)])),(oP 147 (.faddr 3 (.tmp 7))),(oN (.store 1 (.tmp 147) (.tmp 146)))]
 (sr [(oP 148 (.load true 8 (.tmp 7))),(oN (.store 8 (.tmp 2) (.tmp 148))),(oP 3 (.mov (kI 0)))]
 .ret)))))
def a23_c3:ACode:=(sr [(mV 42 5),(oP 43 (.build [(.str []),(.str []),(.val (.int .i64 0)),(.ro true 1 []),(.str []),(.val (.bool false)),(.str []),(.val (.bool false))] [(0,(1,(.tmp 42)))])),(oP 7 (.box (.const (.agg [(.str []),(.str []),(.val (.int .i64 0)),(.ro true 1 []),(.str []),(.val (.bool false)),(.str []),(.val (.bool false))])))),(oN (.store 8 (.tmp 7) (.tmp 43)))]
 (sr [(mV 45 0),(mV 46 5),(oP 47 (.lenS (.tmp 46))),(oP 48 (.bin .add (.tmp 47) (kI 3))),(oP 49 (.slStr (.tmp 45) (some (.tmp 48)) none)),(oP 50 (.call 38 [(.tmp 49),(.const (.c (.str [47,63,35])))])),(mV 44 50),(oP 51 (.ext (.tmp 44) 0)),(oP 52 (.ext (.tmp 44) 1)),(mV 8 51),(mV 9 52)]
 (sr [(mV 54 8),(oP 55 (.call 38 [(.tmp 54),(.const (.c (.str [58])))])),(mV 53 55),(oP 56 (.ext (.tmp 53) 0)),(oP 57 (.ext (.tmp 53) 1)),(mV 10 56),(mV 11 57)]
 (sr [(mV 58 10),(oP 59 (.call 47 [(.tmp 58)])),(oP 60 (.faddr 1 (.tmp 7))),(oN (.store 1 (.tmp 60) (.tmp 59)))]
 (.seq (sr [(oP 61 (.faddr 1 (.tmp 7))),(oP 62 (.load false 1 (.tmp 61))),(oP 63 (.call 48 [(.tmp 62)])),(oP 64 (.un .not (.tmp 63)))]
 (.cond (.tmp 64) (sr [(mV 65 4),(oP 66 (.callv (.tmp 65) [])),(oP 67 (.ext (.tmp 66) 0)),(oP 68 (.ext (.tmp 66) 1)),(oN (.store 8 (.tmp 2) (.tmp 67))),(mV 3 68)]
 .ret) .skip))
 (.seq (sr [(mV 69 11),(oP 70 (.bin .neq (.tmp 69) (.const (.c (.str [])))))]
 (.cond (.tmp 70) (sr [(oP 12 (.mov (kI 0)))]
 (.seq (sr [(mV 71 11),(oP 72 (.slStr (.tmp 71) (some (kI 1)) none)),(oP 73 (.toBytes (.tmp 72))),(oP 74 (.len (.tmp 73))),(oP 75 (.mov (kI 0)))]
 (.block 0 (.loop a23_c1)))
 (.seq (sr [(mV 99 12),(oP 100 (.call 14 [(.tmp 99),(kI 1),(kI 65535)])),(oP 101 (.un .not (.tmp 100)))]
 (.cond (.tmp 101) (sr [(mV 102 4),(oP 103 (.callv (.tmp 102) [])),(oP 104 (.ext (.tmp 103) 0)),(oP 105 (.ext (.tmp 103) 1)),(oN (.store 8 (.tmp 2) (.tmp 104))),(mV 3 105)]
 .ret) .skip))
 (sr [(mV 106 5),(oP 107 (.bin .eql (.tmp 106) (.const (.c (.str [104,116,116,112]))))),(mV 108 107),⟨(some 109),(.mov (.tmp 12)),(some (108,true))⟩,⟨(some 110),(.bin .eql (.tmp 109) (kI 80)),(some (108,true))⟩,(oP 111 (.pick (.tmp 108) (.tmp 110) kF)),(oP 112 (.un .not (.tmp 111))),(mV 113 112),⟨(some 114),(.mov (.tmp 5)),(some (113,true))⟩,⟨(some 115),(.bin .eql (.tmp 114) (.const (.c (.str [104,116,116,112,115])))),(some (113,true))⟩,⟨(some 116),(.mov (.tmp 115)),(some (113,true))⟩,⟨(some 117),(.mov (.tmp 12)),(some (116,true))⟩,⟨(some 118),(.bin .eql (.tmp 117) (kI 443)),(some (116,true))⟩,⟨(some 119),(.pick (.tmp 116) (.tmp 118) kF),(some (113,true))⟩,⟨(some 120),(.un .not (.tmp 119)),(some (113,true))⟩,(oP 121 (.pick (.tmp 113) (.tmp 120) kF))]
 (.cond (.tmp 121) (.region [(mV 122 12),(oP 123 (.faddr 2 (.tmp 7))),(oN (.store 1 (.tmp 123) (.tmp 122)))]) .skip))))) .skip))
 a23_c2))))))
def a23:AFunc:=⟨1,[(.cell true 8 2),(.tmp 3)],(sr [(oP 2 (.box (.const (.agg [(.str []),(.str []),(.val (.int .i64 0)),(.ro true 1 []),(.str []),(.val (.bool false)),(.str []),(.val (.bool false))])))),(oP 3 (.mov (kI 0)))]
 (sr [(oP 4 (.mov (.const (.c (.fn (.func 46) [] [])))))]
 (.seq (sr [(mV 19 0),(oP 20 (.lenS (.tmp 19))),(oP 21 (.bin .gtr (.tmp 20) (kI 500)))]
 (.cond (.tmp 21) (sr [(oP 22 (.build [(.str []),(.str []),(.val (.int .i64 0)),(.ro true 1 []),(.str []),(.val (.bool false)),(.str []),(.val (.bool false))] [])),(oN (.store 8 (.tmp 2) (.tmp 22))),(oP 3 (.mov (kI 2)))]
 .ret) .skip))
 (sr [(mV 24 0),(oP 25 (.call 24 [(.tmp 24)])),(mV 23 25),(oP 26 (.ext (.tmp 23) 0)),(oP 27 (.ext (.tmp 23) 1)),(mV 5 26),(mV 6 27)]
 (.seq (sr [(mV 28 6),(oP 29 (.un .not (.tmp 28))),(mV 30 29),⟨(some 31),(.mov (.tmp 0)),(some (30,false))⟩,⟨(some 32),(.mov (.tmp 5)),(some (30,false))⟩,⟨(some 33),(.lenS (.tmp 32)),(some (30,false))⟩,⟨(some 34),(.slStr (.tmp 31) (some (.tmp 33)) none),(some (30,false))⟩,⟨(some 35),(.call 25 [(.tmp 34),(.const (.c (.str [58,47,47])))]),(some (30,false))⟩,⟨(some 36),(.un .not (.tmp 35)),(some (30,false))⟩,(oP 37 (.pick (.tmp 30) kT (.tmp 36)))]
 a23_c0)
 a23_c3)))))⟩
theorem c23:compFunc Tryz.prog 23=some a23:=by kernel_rfl
def Z52 (r:(TJUrl×Int)):AV→Heap→Nat→Prop:=fun v h' n' => v=(.tup [(.agg [.str r.1.Scheme,.str r.1.Host,cI r.1.Port,.ro false 1 (r.1.Path.map eStr),.str r.1.Query,cB r.1.Asks,.str r.1.Fragment,cB r.1.Points]),(I r.2)])∧(h' = e0)∧n' = 0
noncomputable def Z2r (r_:(Tx×Bool)) (r_4:Tx) (r_2:(Tx×Tx)) (u2:Int):Option (TJUrl×Int) :=
 (Z3j (⟨r_.1,r_4,u2,[],[],false,[],false⟩:TJUrl) r_2.2).bind fun r_6 =>
 (Z7 r_6.1 [47]).bind fun r_7 =>
 (Z3l r_7).bind fun r_8 =>
 if ((!r_6.2.1)||(!r_8.2)) then
  some (Z0.1,Z0.2)
 else
  (Z3m r_8.1).bind fun r_9 =>
  some ((⟨r_6.2.2.Scheme,r_6.2.2.Host,r_6.2.2.Port,r_9,r_6.2.2.Query,r_6.2.2.Asks,r_6.2.2.Fragment,r_6.2.2.Points⟩:TJUrl),0)
theorem Z7a {mL:Int}{r_:(Tx×Bool)}{r_4:Tx}{r_2:(Tx×Tx)}{u2:Int}{o:(TJUrl×Int)}(h:Z2r r_ r_4 r_2 u2=some o) :
  Sv Tryz.prog (GG mL) 0 a23_c2 (Ends a23.results 0 (Z52 o)) ⟨(ue [(9,(S r_2.2)),(7,(.c (.ref 1 8 0 0))),(4,(.c (.fn (.func 46) [] []))),(2,(.c (.ref 0 8 0 0)))]),(upd (upd e0 0 (some (.cells 8 [[.str [],.str [],cI 0,.ro true 1 [],.str [],cB false,.str [],cB false]]))) 1 (some (.cells 8 [[.str r_.1,.str r_4,cI u2,.ro true 1 [],.str [],cB false,.str [],cB false]]))),2⟩:=by
 unfold Z2r at h
 refine ssr<|un1 rfl<|dweak (show Weak 0 _ ⟨(ue [(125,(S r_2.2)),(9,(S r_2.2)),(7,(.c (.ref 1 8 0 0))),(4,(.c (.fn (.func 46) [] []))),(2,(.c (.ref 0 8 0 0)))]),(upd (upd (upd e0 0 (some (.cells 8 [[.str [],.str [],cI 0,.ro true 1 [],.str [],cB false,.str [],cB false]]))) 1 (some (.cells 8 [[.str r_.1,.str r_4,cI u2,lstC true 2 1 ([]:TT).length,.str [],cB false,.str [],cB false]]))) 2 (lstB true 1 (([]:TT).map eStr))),3⟩ from (wcn [0,1,1002] rfl (.cf rfl rfl (.cf rfl rfl (.cr rfl rfl rfl (.cf rfl rfl (.cr rfl rfl rfl .nil))))) (.non (by decide) (.box (by decide) rfl (blkAs_cells (.sm rfl (.sm rfl (.sm rfl (.sm rfl (.sm rfl (.sm rfl (.sm rfl (.sm rfl .nil))))))))) (.box (by decide) rfl (blkAs_cells (.sm rfl (.sm rfl (.sm rfl (.sm rfl (.sm rfl (.sm rfl (.sm rfl (.sm rfl .nil))))))))) .nil))))) ?_
 obtain ⟨r_6,hr6,h⟩:=bnd h
 refine un<|ac_gen (bs:=[1,2]) («as»:=[(.c (.ref 1 8 0 0)),(S r_2.2)]) (h2:=_) (h1:=(upd (upd e0 1 (some (.cells 8 [[.str r_.1,.str r_4,cI u2,lstC true 2 1 ([]:TT).length,.str [],cB false,.str [],cB false]]))) 2 (lstB true 1 (([]:TT).map eStr)))) (Zff (fun _=>rfl) hr6) rfl (.cons (.c (.ref rfl (by decide))) (.cons (avAs_free rfl) .nil)) (hsub_refl _) (.cons rfl (.cons rfl (.nil _))) hcs (by decide) (by decide) (.cons (.c (.ref rfl (by decide))) (.cons (avAs_free rfl) .nil)) (.row (by decide) rfl (fr_map fun _=>rfl) (.box (by decide) rfl (blkAs_cells (.sm rfl (.sm rfl (.sm rfl (.cons (lstC_ren rfl (by decide)) (.sm rfl (.sm rfl (.sm rfl (.sm rfl .nil))))))))) .nil)) ?_
 rintro _ _ _ hn ⟨z_,hz_,rfl,rfl,rfl⟩
 refine ⟨.inl rfl,(upd (upd (rem [1,2] _) 1 (some (.cells 8 [[.str r_6.2.2.Scheme,.str r_6.2.2.Host,cI r_6.2.2.Port,lstC z_ 3 1 r_6.2.2.Path.length,.str r_6.2.2.Query,cB r_6.2.2.Asks,.str r_6.2.2.Fragment,cB r_6.2.2.Points]]))) 3 (lstB z_ 1 (r_6.2.2.Path.map eStr))),fun hbd=>(m3_cons (m3_row rfl (fr_map fun _=>rfl)) (m3_cons (m3_box rfl (by cases z_ <;> rfl)) (m3_rem (in_cons (by decide) (in_cons (by decide) (in_nil _))) (.cons (by decide) (.cons (by decide) .nil)) hbd))),(.tup [(S r_6.1),(B r_6.2.1)]),4,(by cases z_ <;> rfl),rfl,?_⟩
 refine un1 rfl<|un1 (v:=(S r_6.1)) rfl<|un1 (v:=(B r_6.2.1)) rfl<|un1 rfl<|un1 rfl<|dnil<|ssr<|un1 rfl ?_
 obtain ⟨r_7,hr7,h⟩:=bnd h
 refine un<|ac_pure (Z2d hr7) rfl rfl rfl ?_
 obtain ⟨r_8,hr8,h⟩:=bnd h
 refine un<|ac_gen (bs:=[]) («as»:=[(S r_7)]) (h2:=_) (h1:=e0) (Zan hr8) rfl (.cons (avAs_free rfl) .nil) (hsub_refl _) (.nil _) (fun _=>rfl) (by decide) (by decide) (.cons (avAs_free rfl) .nil) .nil ?_
 rintro _ _ _ hn ⟨z_1,hz_1,rfl,rfl,rfl⟩
 refine ⟨.inl rfl,(upd (rem [] _) 4 (lstB z_1 1 (r_8.1.map eStr))),fun hbd=>(m3_cons (m3_row rfl (fr_map fun _=>rfl)) (m3_rem (in_nil _) (.cons (by decide) .nil) hbd)),(.tup [(lstV z_1 4 1 r_8.1.length),(B r_8.2)]),5,(by cases z_1 <;> rfl),rfl,?_⟩
 refine un1 rfl<|un1 (v:=(lstV z_1 4 1 r_8.1.length)) rfl<|un1 (v:=(B r_8.2)) rfl<|un1 rfl<|un1 rfl<|dnil<|Sv.seq<|ssr<|un1 rfl<|un1 (v:=(B (!r_6.2.1))) rfl<|un1 rfl ?_
 refine gjoin 3 (d:=140) (v:=(B ((!r_6.2.1)||(!r_8.2)))) (fun X hX=>?_) ?_
 ·refine split2 (fun hc4=>?_) (fun hc4=>?_)
  ·refine gs rfl rfl<|gs rfl rfl<|un1 (v:=(B true)) rfl<|dnil ?_
   exact hX _ (.putEq (by rw [hc4]; rfl) (.skp (.skp (.putEq (by rw [hc4]) (.refl _)) rfl) rfl))
  ·refine gt rfl<|a1 rfl<|gt rfl<|a1 (v:=(B (!r_8.2))) rfl<|un1 (v:=(B (!r_8.2))) rfl<|dnil ?_
   exact hX _ (.putEq (by rw [hc4]; rfl) (.skp (.skp (.putEq (by rw [hc4]) (.refl _)) rfl) rfl))
 refine dnil ?_
 refine Sv.cnd rfl h (fun h=>?_) fun h=>?_
 ·refine ssr<|un1 rfl<|un<|acv_gen (bs:=[]) («as»:=[]) (h2:=_) (h1:=e0) rfl (by kernel_rfl) (Z4t (mL:=mL)) rfl .nil (hsub_refl _) (.nil _) (fun _=>rfl) (by decide) (by decide) .nil .nil ?_
  rintro _ _ _ hn ⟨rfl,rfl,rfl⟩
  refine ⟨.inl rfl,(rem [] _),fun hbd=>(m3_rem (in_nil _) (.nil) hbd),(.tup [(.agg [.str Z0.1.Scheme,.str Z0.1.Host,cI Z0.1.Port,.ro false 1 (Z0.1.Path.map eStr),.str Z0.1.Query,cB Z0.1.Asks,.str Z0.1.Fragment,cB Z0.1.Points]),(I Z0.2)]),5,rfl,rfl,?_⟩
  refine un1 (v:=(.agg [.str Z0.1.Scheme,.str Z0.1.Host,cI Z0.1.Port,.ro false 1 (Z0.1.Path.map eStr),.str Z0.1.Query,cB Z0.1.Asks,.str Z0.1.Fragment,cB Z0.1.Points])) rfl<|un1 (v:=(I Z0.2)) rfl<|un<|a2n (h' := upd _ 0 (some (.cells 8 [[.str Z0.1.Scheme,.str Z0.1.Host,cI Z0.1.Port,.ro false 1 (Z0.1.Path.map eStr),.str Z0.1.Query,cB Z0.1.Asks,.str Z0.1.Fragment,cB Z0.1.Points]]))) (n' := 5) rfl rfl hcs<|un1 rfl<|dnil<|Sv.ret ?_
  exact rt0 h rfl rfl ⟨rfl,rfl,rfl⟩
 ·refine Sv.skip<|ssr<|un1 rfl ?_
  obtain ⟨r_9,hr9,h⟩:=bnd h
  refine un<|ac_gen (bs:=[]) («as»:=[(.c (.ro false 1 (r_8.1.map eStr)))]) (h2:=(upd _ 4 none)) (h1:=e0) (Zas hr9) rfl (.cons (.c (lstC_ro (es:=List.map eStr r_8.1) rfl (List.length_map eStr).symm (map_nil_of hz_1) (gone rfl) (fr_map fun _=>rfl))) .nil) (hsub_none (hsub_refl _)) (.nil _) (fun _=>rfl) (by decide) (by decide) (.cons (avAs_free rfl) .nil) .nil ?_
  rintro _ _ _ hn ⟨z_2,hz_2,rfl,rfl,rfl⟩
  refine ⟨.inr ⟨(by cases z_2 <;> rfl),(.row (cl_map fun _=>rfl) .nil)⟩,(upd (rem [] _) 5 (lstB z_2 1 (r_9.map eStr))),fun hbd=>(m3_cons (m3_row rfl (fr_map fun _=>rfl)) (m3_rem (in_nil _) (.cons (by decide) .nil) hbd)),(lstV z_2 5 1 r_9.length),6,(by cases z_2 <;> rfl),rfl,?_⟩
  refine un1 (v:=(.c (.ref 1 8 0 3))) rfl<|un<|a2n (h' := upd _ 1 (some (.cells 8 [[.str r_6.2.2.Scheme,.str r_6.2.2.Host,cI r_6.2.2.Port,lstC z_2 5 1 r_9.length,.str r_6.2.2.Query,cB r_6.2.2.Asks,.str r_6.2.2.Fragment,cB r_6.2.2.Points]]))) (n' := 6) rfl rfl hcs<|dnil<|ssr<|un1 (v:=(.agg [.str r_6.2.2.Scheme,.str r_6.2.2.Host,cI r_6.2.2.Port,lstC z_2 5 1 r_9.length,.str r_6.2.2.Query,cB r_6.2.2.Asks,.str r_6.2.2.Fragment,cB r_6.2.2.Points])) rfl<|un<|a2n (h' := upd _ 0 (some (.cells 8 [[.str r_6.2.2.Scheme,.str r_6.2.2.Host,cI r_6.2.2.Port,lstC z_2 5 1 r_9.length,.str r_6.2.2.Query,cB r_6.2.2.Asks,.str r_6.2.2.Fragment,cB r_6.2.2.Points]]))) (n' := 6) rfl rfl hcs<|un1 rfl<|dnil<|Sv.ret ?_
  replace h:=Option.some.inj h
  subst h
  exact ⟨_,.refl _,_,rfl,⟨upd e0 0 (some (.tup [(.agg [.str r_6.2.2.Scheme,.str r_6.2.2.Host,cI r_6.2.2.Port,.ro false 1 (r_9.map eStr),.str r_6.2.2.Query,cB r_6.2.2.Asks,.str r_6.2.2.Fragment,cB r_6.2.2.Points]),(I 0)])),e0,0⟩,(.tup [(.agg [.str r_6.2.2.Scheme,.str r_6.2.2.Host,cI r_6.2.2.Port,.ro false 1 (r_9.map eStr),.str r_6.2.2.Query,cB r_6.2.2.Asks,.str r_6.2.2.Fragment,cB r_6.2.2.Points]),(I 0)]),weak_canon [] rfl ndl nll nlz (.cons rfl (avAs_tup (.cons (avAs_agg (.sm rfl (.sm rfl (.sm rfl (.cons (lstC_ro (es:=List.map eStr r_9) rfl (List.length_map eStr).symm (map_nil_of hz_2) (fun b x hx=>not_in (bs:=[]) rfl b (((.nil):HLt _ _) b x hx)) (fr_map fun _=>rfl)) (.sm rfl (.sm rfl (.sm rfl (.sm rfl .nil))))))))) (.cons (avAs_free rfl) .nil))) .nil) .nil,rfl,rfl,rfl,rfl⟩
abbrev Zfp (r_:(Tx×Bool)) (r_2:(Tx×Tx)) (r_4:Tx) (F_:Int→Option (TJUrl×Int)) (o:(TJUrl×Int)) (R_:St→Prop):Prop:=∀(n_1:Int),F_ n_1=some o→∀ s,Weak 0 s ⟨(ue [(12,(I n_1)),(9,(S r_2.2)),(7,(.c (.ref 1 8 0 0))),(5,(S r_.1)),(4,(.c (.fn (.func 46) [] []))),(2,(.c (.ref 0 8 0 0)))]),(upd (upd e0 0 (some (.cells 8 [[.str [],.str [],cI 0,.ro true 1 [],.str [],cB false,.str [],cB false]]))) 1 (some (.cells 8 [[.str r_.1,.str r_4,cI 0,.ro true 1 [],.str [],cB false,.str [],cB false]]))),2⟩→R_ s
abbrev Zat (r_:(Tx×Bool)) (r_2:(Tx×Tx)) (r_3:(Tx×Tx)) (r_10:Tx) (r_4:Tx) (F_:Nat→Int→Int→Option (TJUrl×Int)) (o:(TJUrl×Int)):Nat→St→Prop:=fun k s=>∃(n_:Int),∃(v75:Int),F_ k n_ v75=some o∧s=⟨(ue [(75,(I v75)),(74,(I ((ints r_10).length:Int))),(73,(lstV false 2 1 (ints r_10).length)),(12,(I n_)),(11,(S r_3.2)),(9,(S r_2.2)),(7,(.c (.ref 1 8 0 0))),(5,(S r_.1)),(4,(.c (.fn (.func 46) [] []))),(2,(.c (.ref 0 8 0 0)))]),(upd (upd (upd e0 0 (some (.cells 8 [[.str [],.str [],cI 0,.ro true 1 [],.str [],cB false,.str [],cB false]]))) 1 (some (.cells 8 [[.str r_.1,.str r_4,cI 0,.ro true 1 [],.str [],cB false,.str [],cB false]]))) 2 (lstB false 1 ((ints r_10).map (eK .u8)))),3⟩
abbrev Zfq (r_:(Tx×Bool)) (r_2:(Tx×Tx)) (r_3:(Tx×Tx)) (r_10:Tx) (r_4:Tx) (F_:Int→Int→Option (TJUrl×Int)) (o:(TJUrl×Int)) (R_:St→Prop):Prop:=∀(n_:Int) (v75:Int),F_ n_ v75=some o→∀ s,Weak 0 s ⟨(ue [(75,(I v75)),(74,(I ((ints r_10).length:Int))),(73,(lstV false 2 1 (ints r_10).length)),(12,(I n_)),(11,(S r_3.2)),(9,(S r_2.2)),(7,(.c (.ref 1 8 0 0))),(5,(S r_.1)),(4,(.c (.fn (.func 46) [] []))),(2,(.c (.ref 0 8 0 0)))]),(upd (upd (upd e0 0 (some (.cells 8 [[.str [],.str [],cI 0,.ro true 1 [],.str [],cB false,.str [],cB false]]))) 1 (some (.cells 8 [[.str r_.1,.str r_4,cI 0,.ro true 1 [],.str [],cB false,.str [],cB false]]))) 2 (lstB false 1 ((ints r_10).map (eK .u8)))),3⟩→R_ s
noncomputable def Z17 (r_10:Tx) (r_3:(Tx×Tx)) (r_:(Tx×Bool)) (r_2:(Tx×Tx)) (r_4:Tx) (K0_:Int→Option (TJUrl×Int)):Nat→Int→Int→Option (TJUrl×Int)
 | 0,_,_=>none
 | k+1,n_,v75 =>
  if decide (v75<((ints r_10).length:Int)) then
   (at? (ints r_10) v75).bind fun x_ =>
   if ((!(Z1 (wr .i64 x_) 48 57))||(decide (6<(r_3.2.length:Int)))) then
    some (Z0.1,Z0.2)
   else
    (Z17 r_10 r_3 r_ r_2 r_4 K0_ k) (wi ((wi (10 * n_))+(wr .i64 (wr .u8 (x_ - 48))))) (wi (v75+1))
  else
   K0_ n_
theorem Zfr {mL:Int}{Q:AExit→St→Prop}{r_10:Tx}{r_3:(Tx×Tx)}{r_:(Tx×Bool)}{r_2:(Tx×Tx)}{r_4:Tx}{K0_:Int→Option (TJUrl×Int)}{k:Nat}{n_:Int}{v75:Int}{o:(TJUrl×Int)}(h:Z17 r_10 r_3 r_ r_2 r_4 K0_ k n_ v75=some o)
  (hK0:Zfp r_ r_2 r_4 K0_ o (Q (.exit 0)))
  (hr:∀ s,Ends a23.results 0 (Z52 o) .ret s→Q .ret s) :
  Sv Tryz.prog (GG mL) 0 (.loop a23_c1) Q ⟨(ue [(75,(I v75)),(74,(I ((ints r_10).length:Int))),(73,(lstV false 2 1 (ints r_10).length)),(12,(I n_)),(11,(S r_3.2)),(9,(S r_2.2)),(7,(.c (.ref 1 8 0 0))),(5,(S r_.1)),(4,(.c (.fn (.func 46) [] []))),(2,(.c (.ref 0 8 0 0)))]),(upd (upd (upd e0 0 (some (.cells 8 [[.str [],.str [],cI 0,.ro true 1 [],.str [],cB false,.str [],cB false]]))) 1 (some (.cells 8 [[.str r_.1,.str r_4,cI 0,.ro true 1 [],.str [],cB false,.str [],cB false]]))) 2 (lstB false 1 ((ints r_10).map (eK .u8)))),3⟩:=by
 refine Sv.loop (I:=Zat r_ r_2 r_3 r_10 r_4 (Z17 r_10 r_3 r_ r_2 r_4 K0_) o) (fun k s hI=>?_) ⟨n_,v75,h,rfl⟩
 clear h
 clear v75 n_
 obtain ⟨n_,v75,h,rfl⟩:=hI
 cases k with
 | zero=>cases h
 | succ k =>
 rw [Z17] at h
 have hself:Zfq r_ r_2 r_3 r_10 r_4 (Z17 r_10 r_3 r_ r_2 r_4 K0_ k) o (rnd 0 (Zat r_ r_2 r_3 r_10 r_4 (Z17 r_10 r_3 r_ r_2 r_4 K0_) o) k Q):=fun n_ v75 h s hw=>⟨_,k,hw,Nat.lt_succ_self k,n_,v75,h,rfl⟩
 refine ssr<|un1 (v:=(B (decide (v75<((ints r_10).length:Int))))) rfl<|dnil<|Sv.seq ?_
 refine Sv.cnd rfl h (fun h=>?_) fun h=>?_
 ·refine Sv.skip<|Sv.seq<|Sv.block<|ssr ?_
  obtain ⟨x_,hx3,h⟩:=bnd h
  refine un1 (v:=(.c (.ref 2 1 v75.toNat 0))) (s_iaddrL rfl rfl hcs hx3)<|un1 (v:=(.c (.val (.int .u8 x_)))) (s_loadL (z:=false) (e:=(eK .u8)) rfl rfl hcs hx3 rfl rfl)<|un1 rfl<|dnil<|Sv.seq<|ssr<|un1 rfl<|un1 (v:=(I (wr .i64 x_))) rfl<|un<|ac_pure (Zo (mL:=mL) (wr .i64 x_) 48 57) rfl rfl rfl<|un1 (v:=(B (!(Z1 (wr .i64 x_) 48 57)))) rfl<|un1 rfl ?_
  refine gjoin 4 (d:=87) (v:=(B ((!(Z1 (wr .i64 x_) 48 57))||(decide (6<(r_3.2.length:Int)))))) (fun X hX=>?_) ?_
  ·refine split2 (fun hc8=>?_) (fun hc8=>?_)
   ·refine gs rfl rfl<|gs rfl rfl<|gs rfl rfl<|un1 (v:=(B true)) rfl<|dnil ?_
    exact hX _ (.putEq (by rw [hc8]; rfl) (.skp (.skp (.skp (.putEq (by rw [hc8]) (.refl _)) rfl) rfl) rfl))
   ·refine gt rfl<|a1 rfl<|gt rfl<|a1 (v:=(I (r_3.2.length:Int))) rfl<|gt rfl<|a1 (v:=(B (decide (6<(r_3.2.length:Int))))) rfl<|un1 (v:=(B (decide (6<(r_3.2.length:Int))))) rfl<|dnil ?_
    exact hX _ (.putEq (by rw [hc8]; rfl) (.skp (.skp (.skp (.putEq (by rw [hc8]) (.refl _)) rfl) rfl) rfl))
  refine dnil ?_
  refine Sv.cnd rfl h (fun h=>?_) fun h=>?_
  ·refine ssr<|un1 rfl<|un<|acv_gen (bs:=[]) («as»:=[]) (h2:=_) (h1:=e0) rfl (by kernel_rfl) (Z4t (mL:=mL)) rfl .nil (hsub_refl _) (.nil _) (fun _=>rfl) (by decide) (by decide) .nil .nil ?_
   rintro _ _ _ hn ⟨rfl,rfl,rfl⟩
   refine ⟨.inl rfl,(rem [] _),fun hbd=>(m3_rem (in_nil _) (.nil) hbd),(.tup [(.agg [.str Z0.1.Scheme,.str Z0.1.Host,cI Z0.1.Port,.ro false 1 (Z0.1.Path.map eStr),.str Z0.1.Query,cB Z0.1.Asks,.str Z0.1.Fragment,cB Z0.1.Points]),(I Z0.2)]),3,rfl,rfl,?_⟩
   refine un1 (v:=(.agg [.str Z0.1.Scheme,.str Z0.1.Host,cI Z0.1.Port,.ro false 1 (Z0.1.Path.map eStr),.str Z0.1.Query,cB Z0.1.Asks,.str Z0.1.Fragment,cB Z0.1.Points])) rfl<|un1 (v:=(I Z0.2)) rfl<|un<|a2n (h' := upd _ 0 (some (.cells 8 [[.str Z0.1.Scheme,.str Z0.1.Host,cI Z0.1.Port,.ro false 1 (Z0.1.Path.map eStr),.str Z0.1.Query,cB Z0.1.Asks,.str Z0.1.Fragment,cB Z0.1.Points]]))) (n' := 3) rfl rfl hcs<|un1 rfl<|dnil<|Sv.ret ?_
   exact hr _ (rt0 h rfl rfl ⟨rfl,rfl,rfl⟩)
  ·refine Sv.skip<|srg<|un1 rfl<|un1 (v:=(I (wi (10 * n_)))) rfl<|un1 rfl<|un1 (v:=(.c (.val (.int .u8 (wr .u8 (x_ - 48)))))) rfl<|un1 (v:=(I (wr .i64 (wr .u8 (x_ - 48))))) rfl<|un1 (v:=(I (wi ((wi (10 * n_))+(wr .i64 (wr .u8 (x_ - 48))))))) rfl<|un1 rfl<|dnil<|srg<|un1 (v:=(I (wi (v75+1)))) rfl<|un1 rfl<|dnil ?_
   exact hself (wi ((wi (10 * n_))+(wr .i64 (wr .u8 (x_ - 48))))) (wi (v75+1)) h _ (wcn [0,1,2] rfl (.cf rfl rfl (.cf rfl rfl (.cons rfl (.c (lsr rfl rfl)) (.cf rfl rfl (.cf rfl rfl (.cf rfl rfl (.cr rfl rfl rfl (.cf rfl rfl (.cf rfl rfl (.cr rfl rfl rfl .nil)))))))))) (.row (by decide) rfl (fr_map fun _=>rfl) (.box (by decide) rfl (blkAs_cells (.sm rfl (.sm rfl (.sm rfl (.sm rfl (.sm rfl (.sm rfl (.sm rfl (.sm rfl .nil))))))))) (.box (by decide) rfl (blkAs_cells (.sm rfl (.sm rfl (.sm rfl (.sm rfl (.sm rfl (.sm rfl (.sm rfl (.sm rfl .nil))))))))) .nil))))
 ·refine Sv.exit ?_
  exact hK0 n_ h _ (wcn [0,1] rfl (.cf rfl rfl (.cf rfl rfl (.cr rfl rfl rfl (.cf rfl rfl (.cf rfl rfl (.cr rfl rfl rfl .nil)))))) (.box (by decide) rfl (blkAs_cells (.sm rfl (.sm rfl (.sm rfl (.sm rfl (.sm rfl (.sm rfl (.sm rfl (.sm rfl .nil))))))))) (.box (by decide) rfl (blkAs_cells (.sm rfl (.sm rfl (.sm rfl (.sm rfl (.sm rfl (.sm rfl (.sm rfl (.sm rfl .nil))))))))) .nil)))
abbrev Zfs (mL:Int) (o:(TJUrl×Int)):AExit→St→Prop:=AThen (Sv Tryz.prog (GG mL) 0 a23_c3 (Ends a23.results 0 (Z52 o))) (Ends a23.results 0 (Z52 o))
noncomputable def Z20 (s_:Tx) (r_:(Tx×Bool)) (v37:Bool):Option (TJUrl×Int) :=
 if v37 then
  some (Z0.1,Z0.2)
 else
  (sub? s_ (wi ((r_.1.length:Int)+3)) (s_.length:Int)).bind fun r_1 =>
  (Z8 r_1 [47,63,35]).bind fun r_2 =>
  (Z8 r_2.1 [58]).bind fun r_3 =>
  (Z3b r_3.1).bind fun r_4 =>
  (Z4v r_4).bind fun r_5 =>
  if (!r_5) then
   some (Z0.1,Z0.2)
  else
   if (!decide (r_3.2=[])) then
    (sub? r_3.2 1 (r_3.2.length:Int)).bind fun r_10 =>
    lim fun kk=>Z17 r_10 r_3 r_ r_2 r_4 (fun (n_1:Int) => 
      if (!(Z1 n_1 1 65535)) then
       some (Z0.1,Z0.2)
      else
       if ((!((decide (r_.1=[104,116,116,112]))&&(decide (n_1=80))))&&(!((decide (r_.1=[104,116,116,112,115]))&&(decide (n_1=443))))) then
        Z2r r_ r_4 r_2 n_1
       else
        Z2r r_ r_4 r_2 0) kk 0 0
   else
    Z2r r_ r_4 r_2 0
theorem Zau {mL:Int}{s_:Tx}{r_:(Tx×Bool)}{v37:Bool}{o:(TJUrl×Int)}(h:Z20 s_ r_ v37=some o) :
  Sv Tryz.prog (GG mL) 0 a23_c0 (Zfs mL o) ⟨(ue [(37,(B v37)),(5,(S r_.1)),(4,(.c (.fn (.func 46) [] []))),(2,(.c (.ref 0 8 0 0))),(0,(S s_))]),(upd e0 0 (some (.cells 8 [[.str [],.str [],cI 0,.ro true 1 [],.str [],cB false,.str [],cB false]]))),1⟩:=by
 unfold Z20 at h
 refine Sv.cnd rfl h (fun h=>?_) fun h=>?_
 ·refine ssr<|un1 rfl<|un<|acv_gen (bs:=[]) («as»:=[]) (h2:=_) (h1:=e0) rfl (by kernel_rfl) (Z4t (mL:=mL)) rfl .nil (hsub_refl _) (.nil _) (fun _=>rfl) (by decide) (by decide) .nil .nil ?_
  rintro _ _ _ hn ⟨rfl,rfl,rfl⟩
  refine ⟨.inl rfl,(rem [] _),fun hbd=>(m3_rem (in_nil _) (.nil) hbd),(.tup [(.agg [.str Z0.1.Scheme,.str Z0.1.Host,cI Z0.1.Port,.ro false 1 (Z0.1.Path.map eStr),.str Z0.1.Query,cB Z0.1.Asks,.str Z0.1.Fragment,cB Z0.1.Points]),(I Z0.2)]),1,rfl,rfl,?_⟩
  refine un1 (v:=(.agg [.str Z0.1.Scheme,.str Z0.1.Host,cI Z0.1.Port,.ro false 1 (Z0.1.Path.map eStr),.str Z0.1.Query,cB Z0.1.Asks,.str Z0.1.Fragment,cB Z0.1.Points])) rfl<|un1 (v:=(I Z0.2)) rfl<|un<|a2n (h' := upd _ 0 (some (.cells 8 [[.str Z0.1.Scheme,.str Z0.1.Host,cI Z0.1.Port,.ro false 1 (Z0.1.Path.map eStr),.str Z0.1.Query,cB Z0.1.Asks,.str Z0.1.Fragment,cB Z0.1.Points]]))) (n' := 1) rfl rfl hcs<|un1 rfl<|dnil<|Sv.ret ?_
  exact rt0 h rfl rfl ⟨rfl,rfl,rfl⟩
 ·refine Sv.skip<|ssr<|un1 rfl<|un1 (v:=(.agg [.str r_.1,.str [],cI 0,.ro true 1 [],.str [],cB false,.str [],cB false])) rfl<|un<|a2v (v:=(.c (.ref 1 8 0 0))) (h' := upd _ 1 (some (.cells 8 [[.str [],.str [],cI 0,.ro true 1 [],.str [],cB false,.str [],cB false]]))) (n' := 2) rfl rfl hcs<|un<|a2n (h' := upd _ 1 (some (.cells 8 [[.str r_.1,.str [],cI 0,.ro true 1 [],.str [],cB false,.str [],cB false]]))) (n' := 2) rfl rfl hcs<|dnil<|ssr<|un1 rfl<|un1 rfl<|un1 (v:=(I (r_.1.length:Int))) rfl<|un1 (v:=(I (wi ((r_.1.length:Int)+3)))) rfl ?_
  obtain ⟨r_1,hx1,h⟩:=bnd h
  refine un1 (v:=(S r_1)) (s_slStr rfl rfl rfl hx1) ?_
  obtain ⟨r_2,hr2,h⟩:=bnd h
  refine un<|ac_pure (Z1w hr2) rfl rfl rfl<|un1 rfl<|un1 (v:=(S r_2.1)) rfl<|un1 (v:=(S r_2.2)) rfl<|un1 rfl<|un1 rfl<|dnil<|ssr<|un1 rfl ?_
  obtain ⟨r_3,hr3,h⟩:=bnd h
  refine un<|ac_pure (Z1w hr3) rfl rfl rfl<|un1 rfl<|un1 (v:=(S r_3.1)) rfl<|un1 (v:=(S r_3.2)) rfl<|un1 rfl<|un1 rfl<|dnil<|ssr<|un1 rfl ?_
  obtain ⟨r_4,hr4,h⟩:=bnd h
  refine un<|ac_pure (Z9p hr4) rfl rfl rfl<|un1 (v:=(.c (.ref 1 8 0 1))) rfl<|un<|a2n (h' := upd _ 1 (some (.cells 8 [[.str r_.1,.str r_4,cI 0,.ro true 1 [],.str [],cB false,.str [],cB false]]))) (n' := 2) rfl rfl hcs<|dnil<|Sv.seq<|ssr<|un1 (v:=(.c (.ref 1 8 0 1))) rfl<|un1 (v:=(S r_4)) rfl ?_
  obtain ⟨r_5,hr5,h⟩:=bnd h
  refine un<|ac_pure (Zev hr5) rfl rfl rfl<|un1 (v:=(B (!r_5))) rfl<|dnil ?_
  refine Sv.cnd rfl h (fun h=>?_) fun h=>?_
  ·refine ssr<|un1 rfl<|un<|acv_gen (bs:=[]) («as»:=[]) (h2:=_) (h1:=e0) rfl (by kernel_rfl) (Z4t (mL:=mL)) rfl .nil (hsub_refl _) (.nil _) (fun _=>rfl) (by decide) (by decide) .nil .nil ?_
   rintro _ _ _ hn ⟨rfl,rfl,rfl⟩
   refine ⟨.inl rfl,(rem [] _),fun hbd=>(m3_rem (in_nil _) (.nil) hbd),(.tup [(.agg [.str Z0.1.Scheme,.str Z0.1.Host,cI Z0.1.Port,.ro false 1 (Z0.1.Path.map eStr),.str Z0.1.Query,cB Z0.1.Asks,.str Z0.1.Fragment,cB Z0.1.Points]),(I Z0.2)]),2,rfl,rfl,?_⟩
   refine un1 (v:=(.agg [.str Z0.1.Scheme,.str Z0.1.Host,cI Z0.1.Port,.ro false 1 (Z0.1.Path.map eStr),.str Z0.1.Query,cB Z0.1.Asks,.str Z0.1.Fragment,cB Z0.1.Points])) rfl<|un1 (v:=(I Z0.2)) rfl<|un<|a2n (h' := upd _ 0 (some (.cells 8 [[.str Z0.1.Scheme,.str Z0.1.Host,cI Z0.1.Port,.ro false 1 (Z0.1.Path.map eStr),.str Z0.1.Query,cB Z0.1.Asks,.str Z0.1.Fragment,cB Z0.1.Points]]))) (n' := 2) rfl rfl hcs<|un1 rfl<|dnil<|Sv.ret ?_
   exact rt0 h rfl rfl ⟨rfl,rfl,rfl⟩
  ·refine Sv.skip<|Sv.seq<|ssr<|un1 rfl<|un1 (v:=(B (!decide (r_3.2=[])))) rfl<|dnil ?_
   refine Sv.cnd rfl h (fun h=>?_) fun h=>?_
   ·refine ssr<|un1 rfl<|dnil<|Sv.seq<|ssr<|un1 rfl ?_
    obtain ⟨r_10,hx2,h⟩:=bnd h
    refine un1 (v:=(S r_10)) (s_slStr rfl rfl rfl hx2)<|un<|a2v (v:=(lstV false 2 1 (ints r_10).length)) (h' := upd _ 2 (lstB false 1 ((ints r_10).map (eK .u8)))) (n' := 3) rfl (s_toBytes rfl) hcs<|un1 (v:=(I ((ints r_10).length:Int))) (s_lenL rfl (len_nil_of hcs))<|un1 rfl<|dnil<|Sv.block ?_
    obtain ⟨kk,h⟩:=lim_some h
    refine Sv.weak (wcn [0,1,2] rfl (.cf rfl rfl (.cf rfl rfl (.cons rfl (.c (lsr rfl rfl)) (.cf rfl rfl (.cf rfl rfl (.cf rfl rfl (.cr rfl rfl rfl (.cf rfl rfl (.cf rfl rfl (.cr rfl rfl rfl .nil)))))))))) (.row (by decide) rfl (fr_map fun _=>rfl) (.box (by decide) rfl (blkAs_cells (.sm rfl (.sm rfl (.sm rfl (.sm rfl (.sm rfl (.sm rfl (.sm rfl (.sm rfl .nil))))))))) (.box (by decide) rfl (blkAs_cells (.sm rfl (.sm rfl (.sm rfl (.sm rfl (.sm rfl (.sm rfl (.sm rfl (.sm rfl .nil))))))))) .nil)))) (Zfr h ?_ (fun s hs=>hs))
    ·intro n_1 h _ hw1
     refine Sv.weak hw1<|Sv.seq<|ssr<|un1 rfl<|un<|ac_pure (Zo (mL:=mL) n_1 1 65535) rfl rfl rfl<|un1 (v:=(B (!(Z1 n_1 1 65535)))) rfl<|dnil ?_
     refine Sv.cnd rfl h (fun h=>?_) fun h=>?_
     ·refine ssr<|un1 rfl<|un<|acv_gen (bs:=[]) («as»:=[]) (h2:=_) (h1:=e0) rfl (by kernel_rfl) (Z4t (mL:=mL)) rfl .nil (hsub_refl _) (.nil _) (fun _=>rfl) (by decide) (by decide) .nil .nil ?_
      rintro _ _ _ hn ⟨rfl,rfl,rfl⟩
      refine ⟨.inl rfl,(rem [] _),fun hbd=>(m3_rem (in_nil _) (.nil) hbd),(.tup [(.agg [.str Z0.1.Scheme,.str Z0.1.Host,cI Z0.1.Port,.ro false 1 (Z0.1.Path.map eStr),.str Z0.1.Query,cB Z0.1.Asks,.str Z0.1.Fragment,cB Z0.1.Points]),(I Z0.2)]),2,rfl,rfl,?_⟩
      refine un1 (v:=(.agg [.str Z0.1.Scheme,.str Z0.1.Host,cI Z0.1.Port,.ro false 1 (Z0.1.Path.map eStr),.str Z0.1.Query,cB Z0.1.Asks,.str Z0.1.Fragment,cB Z0.1.Points])) rfl<|un1 (v:=(I Z0.2)) rfl<|un<|a2n (h' := upd _ 0 (some (.cells 8 [[.str Z0.1.Scheme,.str Z0.1.Host,cI Z0.1.Port,.ro false 1 (Z0.1.Path.map eStr),.str Z0.1.Query,cB Z0.1.Asks,.str Z0.1.Fragment,cB Z0.1.Points]]))) (n' := 2) rfl rfl hcs<|un1 rfl<|dnil<|Sv.ret ?_
      exact rt0 h rfl rfl ⟨rfl,rfl,rfl⟩
     ·refine Sv.skip<|ssr<|un1 rfl<|un1 (v:=(B (decide (r_.1=[104,116,116,112])))) rfl<|un1 rfl ?_
      refine gjoin 3 (d:=111) (v:=(B ((decide (r_.1=[104,116,116,112]))&&(decide (n_1=80))))) (fun X hX=>?_) ?_
      ·refine split2 (fun hc11=>?_) (fun hc11=>?_)
       ·refine gt rfl<|a1 rfl<|gt rfl<|a1 (v:=(B (decide (n_1=80)))) rfl<|un1 (v:=(B (decide (n_1=80)))) rfl<|dnil ?_
        exact hX _ (.putEq (by rw [hc11]; rfl) (.skp (.skp (.putEq (by rw [hc11]) (.refl _)) rfl) rfl))
       ·refine gs rfl rfl<|gs rfl rfl<|un1 (v:=(B false)) rfl<|dnil ?_
        exact hX _ (.putEq (by rw [hc11]; rfl) (.skp (.skp (.putEq (by rw [hc11]) (.refl _)) rfl) rfl))
      refine un1 (v:=(B (!((decide (r_.1=[104,116,116,112]))&&(decide (n_1=80)))))) rfl<|un1 rfl ?_
      refine gjoin 8 (d:=121) (v:=(B ((!((decide (r_.1=[104,116,116,112]))&&(decide (n_1=80))))&&(!((decide (r_.1=[104,116,116,112,115]))&&(decide (n_1=443))))))) (fun X hX=>?_) ?_
      ·refine split2 (fun hc13=>?_) (fun hc13=>?_)
       ·refine gt rfl<|a1 rfl<|gt rfl<|a1 (v:=(B (decide (r_.1=[104,116,116,112,115])))) rfl<|gt rfl<|a1 rfl ?_
        refine gjoin 3 (d:=119) (v:=(B ((decide (r_.1=[104,116,116,112,115]))&&(decide (n_1=443))))) (fun X hX=>?_) ?_
        ·refine split2 (fun hc12=>?_) (fun hc12=>?_)
         ·refine gt rfl<|a1 rfl<|gt rfl<|a1 (v:=(B (decide (n_1=443)))) rfl<|gt rfl<|a1 (v:=(B (decide (n_1=443)))) rfl<|dnil ?_
          exact hX _ (.putEq (by rw [hc12]; rfl) (.skp (.skp (.putEq (by rw [hc12]) (.refl _)) rfl) rfl))
         ·refine gs rfl rfl<|gs rfl rfl<|gt rfl<|a1 (v:=(B false)) rfl<|dnil ?_
          exact hX _ (.putEq (by rw [hc12]; rfl) (.skp (.skp (.putEq (by rw [hc12]) (.refl _)) rfl) rfl))
        refine gt rfl<|a1 (v:=(B (!((decide (r_.1=[104,116,116,112,115]))&&(decide (n_1=443)))))) rfl<|un1 (v:=(B (!((decide (r_.1=[104,116,116,112,115]))&&(decide (n_1=443)))))) rfl<|dnil ?_
        exact hX _ (.putEq (by rw [hc13]; rfl) (by repeat (first | exact .putEq (by rw [hc13]) (.refl _) | refine .skp ?_ rfl)))
       ·repeat (first | refine gu rfl ?_ | refine gs rfl rfl ?_)
        refine un1 (v:=(B false)) rfl<|dnil ?_
        exact hX _ (.putEq (by rw [hc13]; rfl) (by repeat (first | exact .putEq (by rw [hc13]) (.refl _) | refine .skp ?_ rfl)))
      refine dnil ?_
      refine Sv.cnd rfl h (fun h=>?_) fun h=>?_
      ·refine srg<|un1 rfl<|un1 (v:=(.c (.ref 1 8 0 2))) rfl<|un<|a2n (h' := upd _ 1 (some (.cells 8 [[.str r_.1,.str r_4,cI n_1,.ro true 1 [],.str [],cB false,.str [],cB false]]))) (n' := 2) rfl rfl hcs<|dnil ?_
       exact Sv.weak (wcn [0,1] rfl (.cf rfl rfl (.cr rfl rfl rfl (.cf rfl rfl (.cr rfl rfl rfl .nil)))) (.box (by decide) rfl (blkAs_cells (.sm rfl (.sm rfl (.sm rfl (.sm rfl (.sm rfl (.sm rfl (.sm rfl (.sm rfl .nil))))))))) (.box (by decide) rfl (blkAs_cells (.sm rfl (.sm rfl (.sm rfl (.sm rfl (.sm rfl (.sm rfl (.sm rfl (.sm rfl .nil))))))))) .nil))) (Z7a h)
      ·refine Sv.skip ?_
       exact Sv.weak (wcn [0,1] rfl (.cf rfl rfl (.cr rfl rfl rfl (.cf rfl rfl (.cr rfl rfl rfl .nil)))) (.box (by decide) rfl (blkAs_cells (.sm rfl (.sm rfl (.sm rfl (.sm rfl (.sm rfl (.sm rfl (.sm rfl (.sm rfl .nil))))))))) (.box (by decide) rfl (blkAs_cells (.sm rfl (.sm rfl (.sm rfl (.sm rfl (.sm rfl (.sm rfl (.sm rfl (.sm rfl .nil))))))))) .nil))) (Z7a h)
   ·refine Sv.skip ?_
    exact Sv.weak (wcn [0,1] rfl (.cf rfl rfl (.cr rfl rfl rfl (.cf rfl rfl (.cr rfl rfl rfl .nil)))) (.box (by decide) rfl (blkAs_cells (.sm rfl (.sm rfl (.sm rfl (.sm rfl (.sm rfl (.sm rfl (.sm rfl (.sm rfl .nil))))))))) (.box (by decide) rfl (blkAs_cells (.sm rfl (.sm rfl (.sm rfl (.sm rfl (.sm rfl (.sm rfl (.sm rfl (.sm rfl .nil))))))))) .nil))) (Z7a h)
noncomputable def Zq (s_:Tx):Option (TJUrl×Int) :=
 if decide (500<(s_.length:Int)) then
  some ((⟨[],[],0,[],[],false,[],false⟩:TJUrl),2)
 else
  (Z3c s_).bind fun r_ =>
  if (!r_.2) then
   Z20 s_ r_ true
  else
   (sub? s_ (r_.1.length:Int) (s_.length:Int)).bind fun r_11 =>
   (Zj r_11 [58,47,47]).bind fun r_12 =>
   Z20 s_ r_ (!r_12)
theorem Z2s {mL:Int}{s_:Tx}{r:(TJUrl×Int)}(h:Zq s_=some r):CPure Tryz.prog (GG mL) 23 [(S s_)] (.tup [(.agg [.str r.1.Scheme,.str r.1.Host,cI r.1.Port,.ro false 1 (r.1.Path.map eStr),.str r.1.Query,cB r.1.Asks,.str r.1.Fragment,cB r.1.Points]),(I r.2)]):=by
 refine acalls_of_sv hmix c23 (R:=Z52 r) ?_
 unfold Zq at h
 refine ssr<|un<|a2v (v:=(.c (.ref 0 8 0 0))) (h' := upd _ 0 (some (.cells 8 [[.str [],.str [],cI 0,.ro true 1 [],.str [],cB false,.str [],cB false]]))) (n' := 1) rfl rfl hcs<|un1 rfl<|dnil<|ssr<|un1 rfl<|dnil<|Sv.seq<|ssr<|un1 rfl<|un1 (v:=(I (s_.length:Int))) rfl<|un1 (v:=(B (decide (500<(s_.length:Int))))) rfl<|dnil ?_
 refine Sv.cnd rfl h (fun h=>?_) fun h=>?_
 ·refine ssr<|un1 (v:=(.agg [.str [],.str [],cI 0,.ro true 1 [],.str [],cB false,.str [],cB false])) rfl<|un<|a2n (h' := upd _ 0 (some (.cells 8 [[.str [],.str [],cI 0,.ro true 1 [],.str [],cB false,.str [],cB false]]))) (n' := 1) rfl rfl hcs<|un1 rfl<|dnil<|Sv.ret ?_
  replace h:=Option.some.inj h
  subst h
  exact ⟨_,.refl _,_,rfl,⟨upd e0 0 (some (.tup [(.agg [.str [],.str [],cI 0,.ro false 1 (([]:TT).map eStr),.str [],cB false,.str [],cB false]),(I 2)])),e0,0⟩,(.tup [(.agg [.str [],.str [],cI 0,.ro false 1 (([]:TT).map eStr),.str [],cB false,.str [],cB false]),(I 2)]),weak_canon [] rfl ndl nll nlz (.cons rfl (avAs_tup (.cons (avAs_agg (.sm rfl (.sm rfl (.sm rfl (.cons .nil (.sm rfl (.sm rfl (.sm rfl (.sm rfl .nil))))))))) (.cons (avAs_free rfl) .nil))) .nil) .nil,rfl,rfl,rfl,rfl⟩
 ·refine Sv.skip<|ssr<|un1 rfl ?_
  obtain ⟨r_,hr1,h⟩:=bnd h
  refine un<|ac_pure (Z9s hr1) rfl rfl rfl<|un1 rfl<|un1 (v:=(S r_.1)) rfl<|un1 (v:=(B r_.2)) rfl<|un1 rfl<|un1 rfl<|dnil<|Sv.seq<|ssr<|un1 rfl<|un1 (v:=(B (!r_.2))) rfl<|un1 rfl ?_
  refine spl h (fun h=>?_) fun h=>?_
  ·repeat (first | refine gu rfl ?_ | refine gs rfl rfl ?_)
   refine un1 (v:=(B true)) rfl<|dnil ?_
   exact Sv.weak (wcn [0] rfl (.cf rfl rfl (.cf rfl rfl (.cf rfl rfl (.cr rfl rfl rfl (.cf rfl rfl .nil))))) (.box (by decide) rfl (blkAs_cells (.sm rfl (.sm rfl (.sm rfl (.sm rfl (.sm rfl (.sm rfl (.sm rfl (.sm rfl .nil))))))))) .nil)) (Zau h)
  ·refine gt rfl<|a1 rfl<|gt rfl<|a1 rfl<|gt rfl<|a1 (v:=(I (r_.1.length:Int))) rfl ?_
   obtain ⟨r_11,hx4,h⟩:=bnd h
   refine gt rfl<|a1 (v:=(S r_11)) (s_slStr rfl rfl rfl hx4) ?_
   obtain ⟨r_12,hr10,h⟩:=bnd h
   refine gt rfl<|ac_pure (Z5j hr10) rfl rfl rfl<|gt rfl<|a1 (v:=(B (!r_12))) rfl<|un1 (v:=(B (!r_12))) rfl<|dnil ?_
   exact Sv.weak (wcn [0] rfl (.cf rfl rfl (.cf rfl rfl (.cf rfl rfl (.cr rfl rfl rfl (.cf rfl rfl .nil))))) (.box (by decide) rfl (blkAs_cells (.sm rfl (.sm rfl (.sm rfl (.sm rfl (.sm rfl (.sm rfl (.sm rfl (.sm rfl .nil))))))))) .nil)) (Zau h)
def a36_c0:ACode:=(sr [(mV 19 3),(mV 2 19)]
 .ret)
def a36:AFunc:=⟨1,[(.tmp 2)],(sr [(oP 1 (.box (.tmp 0))),(oP 2 (.mov (.const (.c (.str [])))))]
 (sr [(oP 4 (.faddr 0 (.tmp 1))),(oP 5 (.load false 1 (.tmp 4))),(oP 6 (.bin .add (.tmp 5) (.const (.c (.str [58,47,47]))))),(oP 7 (.faddr 1 (.tmp 1))),(oP 8 (.load false 1 (.tmp 7))),(oP 9 (.bin .add (.tmp 6) (.tmp 8))),(mV 3 9)]
 (.seq (sr [(oP 10 (.faddr 2 (.tmp 1))),(oP 11 (.load false 1 (.tmp 10))),(oP 12 (.bin .neq (.tmp 11) (kI 0)))]
 (.cond (.tmp 12) (.region [(mV 13 3),(oP 14 (.faddr 2 (.tmp 1))),(oP 15 (.load false 1 (.tmp 14))),(oP 16 (.call 56 [(.tmp 15)])),(oP 17 (.bin .add (.const (.c (.str [58]))) (.tmp 16))),(oP 18 (.bin .add (.tmp 13) (.tmp 17))),(mV 3 18)]) .skip))
 a36_c0)))⟩
theorem c36:compFunc Tryz.prog 36=some a36:=by kernel_rfl
def Zav (r:Tx):AV→Heap→Nat→Prop:=fun v h' n' => v=(S r)∧(h' = e0)∧n' = 0
noncomputable def Z53 (out:Tx):Option Tx :=
 some out
theorem Zaw {mL:Int}{out:Tx}{o:Tx}(h:Z53 out=some o) :
  Sv Tryz.prog (GG mL) 0 a36_c0 (Ends a36.results 0 (Zav o)) ⟨(upd e0 3 (some (S out))),e0,0⟩:=by
 unfold Z53 at h
 refine ssr<|un1 rfl<|un1 rfl<|dnil<|Sv.ret ?_
 exact rt0 h rfl rfl ⟨rfl,rfl,rfl⟩
noncomputable def Zc (u_:TJUrl):Option Tx :=
 (cat? u_.Scheme [58,47,47]).bind fun r_ =>
 (cat? r_ u_.Host).bind fun r_1 =>
 if (!decide (u_.Port=0)) then
  (Z6p u_.Port).bind fun r_2 =>
  (cat? [58] r_2).bind fun r_3 =>
  (cat? r_1 r_3).bind fun r_4 =>
  Z53 r_4
 else
  Z53 r_1
theorem Z54 {mL:Int}{u_:TJUrl}{r:Tx}(h:Zc u_=some r):CPure Tryz.prog (GG mL) 36 [(.agg [.str u_.Scheme,.str u_.Host,cI u_.Port,.ro false 1 (u_.Path.map eStr),.str u_.Query,cB u_.Asks,.str u_.Fragment,cB u_.Points])] (S r):=by
 refine acalls_of_sv hmix c36 (R:=Zav r) ?_
 unfold Zc at h
 refine ssr<|un<|a2v (v:=(.c (.ref 0 8 0 0))) (h' := upd _ 0 (some (.cells 8 [[.str u_.Scheme,.str u_.Host,cI u_.Port,.ro false 1 (u_.Path.map eStr),.str u_.Query,cB u_.Asks,.str u_.Fragment,cB u_.Points]]))) (n' := 1) rfl rfl hcs<|un1 rfl<|dnil<|ssr<|un1 (v:=(.c (.ref 0 8 0 0))) rfl<|un1 (v:=(S u_.Scheme)) rfl ?_
 obtain ⟨r_,hx1,h⟩:=bnd h
 refine un1 (v:=(S r_)) (s_cat rfl rfl hx1)<|un1 (v:=(.c (.ref 0 8 0 1))) rfl<|un1 (v:=(S u_.Host)) rfl ?_
 obtain ⟨r_1,hx2,h⟩:=bnd h
 refine un1 (v:=(S r_1)) (s_cat rfl rfl hx2)<|un1 rfl<|dnil<|Sv.seq<|ssr<|un1 (v:=(.c (.ref 0 8 0 2))) rfl<|un1 (v:=(I u_.Port)) rfl<|un1 (v:=(B (!decide (u_.Port=0)))) rfl<|dnil ?_
 refine Sv.cnd rfl h (fun h=>?_) fun h=>?_
 ·refine srg<|un1 rfl<|un1 (v:=(.c (.ref 0 8 0 2))) rfl<|un1 (v:=(I u_.Port)) rfl ?_
  obtain ⟨r_2,hr1,h⟩:=bnd h
  refine un<|ac_pure (Z8q hr1) rfl rfl rfl ?_
  obtain ⟨r_3,hx3,h⟩:=bnd h
  refine un1 (v:=(S r_3)) (s_cat rfl rfl hx3) ?_
  obtain ⟨r_4,hx4,h⟩:=bnd h
  refine un1 (v:=(S r_4)) (s_cat rfl rfl hx4)<|un1 rfl<|dnil ?_
  exact Sv.weak (wcn [] rfl (.cf rfl rfl .nil) .nil) (Zaw h)
 ·refine Sv.skip ?_
  exact Sv.weak (wcn [] rfl (.cf rfl rfl .nil) .nil) (Zaw h)
def a30_c0:ACode:=(sr [(oP 12 (.bin .lss (.tmp 11) (.tmp 10)))]
 (.seq (.cond (.tmp 12) .skip (.exit 0))
 (.seq (.block 1 (sr [(oP 13 (.iaddr 1 (.tmp 9) (.tmp 11))),(oP 14 (.load false 1 (.tmp 13))),(mV 5 14)]
 (.region [(mV 15 3),(mV 16 5),(oP 17 (.call 54 [(.tmp 16)])),(oP 18 (.bin .add (.const (.c (.str [47]))) (.tmp 17))),(oP 19 (.bin .add (.tmp 15) (.tmp 18))),(mV 3 19)])))
 (.region [(oP 20 (.bin .add (.tmp 11) (kI 1))),(mV 11 20)]))))
def a30_c2:ACode:=(sr [(mV 35 3),(mV 2 35)]
 .ret)
def a30_c1:ACode:=(.seq (sr [(oP 28 (.faddr 7 (.tmp 1))),(oP 29 (.load false 1 (.tmp 28)))]
 (.cond (.tmp 29) (.region [(mV 30 3),(oP 31 (.faddr 6 (.tmp 1))),(oP 32 (.load false 1 (.tmp 31))),(oP 33 (.bin .add (.const (.c (.str [35]))) (.tmp 32))),(oP 34 (.bin .add (.tmp 30) (.tmp 33))),(mV 3 34)]) .skip))
 a30_c2)
def a30:AFunc:=⟨1,[(.tmp 2)],(sr [(oP 1 (.box (.tmp 0))),(oP 2 (.mov (.const (.c (.str [])))))]
 (sr [(oP 6 (.load true 8 (.tmp 1))),(oP 7 (.call 36 [(.tmp 6)])),(mV 3 7)]
 (.seq (sr [(oP 8 (.faddr 3 (.tmp 1))),(oP 9 (.load false 1 (.tmp 8))),(oP 10 (.len (.tmp 9))),(oP 11 (.mov (kI 0)))]
 (.block 0 (.loop a30_c0)))
 (.seq (sr [(oP 21 (.faddr 5 (.tmp 1))),(oP 22 (.load false 1 (.tmp 21)))]
 (.cond (.tmp 22) (.region [(mV 23 3),(oP 24 (.faddr 4 (.tmp 1))),(oP 25 (.load false 1 (.tmp 24))),(oP 26 (.bin .add (.const (.c (.str [63]))) (.tmp 25))),(oP 27 (.bin .add (.tmp 23) (.tmp 26))),(mV 3 27)]) .skip))
 a30_c1))))⟩
theorem c30:compFunc Tryz.prog 30=some a30:=by kernel_rfl
def Z5x (r:Tx):AV→Heap→Nat→Prop:=fun v h' n' => v=(S r)∧(h' = e0)∧n' = 0
abbrev Zft (u_:TJUrl) (F_:Tx→Option Tx) (o:Tx) (R_:St→Prop):Prop:=∀(out1:Tx),F_ out1=some o→∀ s,Weak 0 s ⟨(ue [(3,(S out1)),(1,(.c (.ref 0 8 0 0)))]),(upd e0 0 (some (.cells 8 [[.str u_.Scheme,.str u_.Host,cI u_.Port,.ro false 1 (u_.Path.map eStr),.str u_.Query,cB u_.Asks,.str u_.Fragment,cB u_.Points]]))),1⟩→R_ s
abbrev Zax (u_:TJUrl) (F_:Nat→Tx→Int→Option Tx) (o:Tx):Nat→St→Prop:=fun k s=>∃(out:Tx),∃(v11:Int),F_ k out v11=some o∧s=⟨(ue [(11,(I v11)),(10,(I (u_.Path.length:Int))),(9,(.c (.ro false 1 (u_.Path.map eStr)))),(3,(S out)),(1,(.c (.ref 0 8 0 0)))]),(upd e0 0 (some (.cells 8 [[.str u_.Scheme,.str u_.Host,cI u_.Port,.ro false 1 (u_.Path.map eStr),.str u_.Query,cB u_.Asks,.str u_.Fragment,cB u_.Points]]))),1⟩
abbrev Zfu (u_:TJUrl) (F_:Tx→Int→Option Tx) (o:Tx) (R_:St→Prop):Prop:=∀(out:Tx) (v11:Int),F_ out v11=some o→∀ s,Weak 0 s ⟨(ue [(11,(I v11)),(10,(I (u_.Path.length:Int))),(9,(.c (.ro false 1 (u_.Path.map eStr)))),(3,(S out)),(1,(.c (.ref 0 8 0 0)))]),(upd e0 0 (some (.cells 8 [[.str u_.Scheme,.str u_.Host,cI u_.Port,.ro false 1 (u_.Path.map eStr),.str u_.Query,cB u_.Asks,.str u_.Fragment,cB u_.Points]]))),1⟩→R_ s
noncomputable def Z1i (u_:TJUrl) (K0_:Tx→Option Tx):Nat→Tx→Int→Option Tx
 | 0,_,_=>none
 | k+1,out,v11 =>
  if decide (v11<(u_.Path.length:Int)) then
   (at? u_.Path v11).bind fun x_ =>
   (Z2n x_).bind fun r_1 =>
   (cat? [47] r_1).bind fun r_2 =>
   (cat? out r_2).bind fun r_3 =>
   (Z1i u_ K0_ k) r_3 (wi (v11+1))
  else
   K0_ out
theorem Zfv {mL:Int}{Q:AExit→St→Prop}{u_:TJUrl}{K0_:Tx→Option Tx}{k:Nat}{out:Tx}{v11:Int}{o:Tx}(h:Z1i u_ K0_ k out v11=some o)
  (hK0:Zft u_ K0_ o (Q (.exit 0)))
  (hr:∀ s,Ends a30.results 0 (Z5x o) .ret s→Q .ret s) :
  Sv Tryz.prog (GG mL) 0 (.loop a30_c0) Q ⟨(ue [(11,(I v11)),(10,(I (u_.Path.length:Int))),(9,(.c (.ro false 1 (u_.Path.map eStr)))),(3,(S out)),(1,(.c (.ref 0 8 0 0)))]),(upd e0 0 (some (.cells 8 [[.str u_.Scheme,.str u_.Host,cI u_.Port,.ro false 1 (u_.Path.map eStr),.str u_.Query,cB u_.Asks,.str u_.Fragment,cB u_.Points]]))),1⟩:=by
 refine Sv.loop (I:=Zax u_ (Z1i u_ K0_) o) (fun k s hI=>?_) ⟨out,v11,h,rfl⟩
 clear h
 clear v11 out
 obtain ⟨out,v11,h,rfl⟩:=hI
 cases k with
 | zero=>cases h
 | succ k =>
 rw [Z1i] at h
 have hself:Zfu u_ (Z1i u_ K0_ k) o (rnd 0 (Zax u_ (Z1i u_ K0_) o) k Q):=fun out v11 h s hw=>⟨_,k,hw,Nat.lt_succ_self k,out,v11,h,rfl⟩
 refine ssr<|un1 (v:=(B (decide (v11<(u_.Path.length:Int))))) rfl<|dnil<|Sv.seq ?_
 refine Sv.cnd rfl h (fun h=>?_) fun h=>?_
 ·refine Sv.skip<|Sv.seq<|Sv.block<|ssr ?_
  obtain ⟨x_,hx1,h⟩:=bnd h
  refine un1 (v:=(.c (.rop [.str x_]))) (s_iaddr (e:=eStr) (xs:=u_.Path) rfl rfl hx1)<|un1 (v:=(S x_)) rfl<|un1 rfl<|dnil<|srg<|un1 rfl<|un1 rfl ?_
  obtain ⟨r_1,hr2,h⟩:=bnd h
  refine un<|ac_pure (Zae hr2) rfl rfl rfl ?_
  obtain ⟨r_2,hx2,h⟩:=bnd h
  refine un1 (v:=(S r_2)) (s_cat rfl rfl hx2) ?_
  obtain ⟨r_3,hx3,h⟩:=bnd h
  refine un1 (v:=(S r_3)) (s_cat rfl rfl hx3)<|un1 rfl<|dnil<|srg<|un1 (v:=(I (wi (v11+1)))) rfl<|un1 rfl<|dnil ?_
  exact hself r_3 (wi (v11+1)) h _ (wcn [0] rfl (.cf rfl rfl (.cf rfl rfl (.cf rfl rfl (.cf rfl rfl (.cr rfl rfl rfl .nil))))) (.box (by decide) rfl (blkAs_cells (.sm rfl (.sm rfl (.sm rfl (.sm rfl (.sm rfl (.sm rfl (.sm rfl (.sm rfl .nil))))))))) .nil))
 ·refine Sv.exit ?_
  exact hK0 out h _ (wcn [0] rfl (.cf rfl rfl (.cr rfl rfl rfl .nil)) (.box (by decide) rfl (blkAs_cells (.sm rfl (.sm rfl (.sm rfl (.sm rfl (.sm rfl (.sm rfl (.sm rfl (.sm rfl .nil))))))))) .nil))
noncomputable def Z55 (out3:Tx):Option Tx :=
 some out3
theorem Zay {mL:Int}{out3:Tx}{o:Tx}(h:Z55 out3=some o) :
  Sv Tryz.prog (GG mL) 0 a30_c2 (Ends a30.results 0 (Z5x o)) ⟨(upd e0 3 (some (S out3))),e0,0⟩:=by
 unfold Z55 at h
 refine ssr<|un1 rfl<|un1 rfl<|dnil<|Sv.ret ?_
 exact rt0 h rfl rfl ⟨rfl,rfl,rfl⟩
noncomputable def Z21 (u_:TJUrl) (out2:Tx):Option Tx :=
 if u_.Points then
  (cat? [35] u_.Fragment).bind fun r_4 =>
  (cat? out2 r_4).bind fun r_5 =>
  Z55 r_5
 else
  Z55 out2
theorem Zaz {mL:Int}{u_:TJUrl}{out2:Tx}{o:Tx}(h:Z21 u_ out2=some o) :
  Sv Tryz.prog (GG mL) 0 a30_c1 (Ends a30.results 0 (Z5x o)) ⟨(ue [(3,(S out2)),(1,(.c (.ref 0 8 0 0)))]),(upd e0 0 (some (.cells 8 [[.str u_.Scheme,.str u_.Host,cI u_.Port,.ro false 1 (u_.Path.map eStr),.str u_.Query,cB u_.Asks,.str u_.Fragment,cB u_.Points]]))),1⟩:=by
 unfold Z21 at h
 refine Sv.seq<|ssr<|un1 (v:=(.c (.ref 0 8 0 7))) rfl<|un1 (v:=(B u_.Points)) rfl<|dnil ?_
 refine Sv.cnd rfl h (fun h=>?_) fun h=>?_
 ·refine srg<|un1 rfl<|un1 (v:=(.c (.ref 0 8 0 6))) rfl<|un1 (v:=(S u_.Fragment)) rfl ?_
  obtain ⟨r_4,hx4,h⟩:=bnd h
  refine un1 (v:=(S r_4)) (s_cat rfl rfl hx4) ?_
  obtain ⟨r_5,hx5,h⟩:=bnd h
  refine un1 (v:=(S r_5)) (s_cat rfl rfl hx5)<|un1 rfl<|dnil ?_
  exact Sv.weak (wcn [] rfl (.cf rfl rfl .nil) .nil) (Zay h)
 ·refine Sv.skip ?_
  exact Sv.weak (wcn [] rfl (.cf rfl rfl .nil) .nil) (Zay h)
noncomputable def Z3n (u_:TJUrl):Option Tx :=
 (Zc u_).bind fun r_ =>
 lim fun kk=>Z1i u_ (fun (out1:Tx) => 
   if u_.Asks then
    (cat? [63] u_.Query).bind fun r_6 =>
    (cat? out1 r_6).bind fun r_7 =>
    Z21 u_ r_7
   else
    Z21 u_ out1) kk r_ 0
theorem Zfw {mL:Int}{u_:TJUrl}{r:Tx}(h:Z3n u_=some r):CPure Tryz.prog (GG mL) 30 [(.agg [.str u_.Scheme,.str u_.Host,cI u_.Port,.ro false 1 (u_.Path.map eStr),.str u_.Query,cB u_.Asks,.str u_.Fragment,cB u_.Points])] (S r):=by
 refine acalls_of_sv hmix c30 (R:=Z5x r) ?_
 unfold Z3n at h
 refine ssr<|un<|a2v (v:=(.c (.ref 0 8 0 0))) (h' := upd _ 0 (some (.cells 8 [[.str u_.Scheme,.str u_.Host,cI u_.Port,.ro false 1 (u_.Path.map eStr),.str u_.Query,cB u_.Asks,.str u_.Fragment,cB u_.Points]]))) (n' := 1) rfl rfl hcs<|un1 rfl<|dnil<|ssr<|un1 (v:=(.agg [.str u_.Scheme,.str u_.Host,cI u_.Port,.ro false 1 (u_.Path.map eStr),.str u_.Query,cB u_.Asks,.str u_.Fragment,cB u_.Points])) rfl ?_
 obtain ⟨r_,hr1,h⟩:=bnd h
 refine un<|ac_pure (Z54 hr1) rfl rfl rfl<|un1 rfl<|dnil<|Sv.seq<|ssr<|un1 (v:=(.c (.ref 0 8 0 3))) rfl<|un1 (v:=(.c (.ro false 1 (u_.Path.map eStr)))) rfl<|un1 (v:=(I (u_.Path.length:Int))) (s_len (e:=eStr) (xs:=u_.Path) rfl)<|un1 rfl<|dnil<|Sv.block ?_
 obtain ⟨kk,h⟩:=lim_some h
 refine Sv.weak (wcn [0] rfl (.cf rfl rfl (.cf rfl rfl (.cf rfl rfl (.cf rfl rfl (.cr rfl rfl rfl .nil))))) (.box (by decide) rfl (blkAs_cells (.sm rfl (.sm rfl (.sm rfl (.sm rfl (.sm rfl (.sm rfl (.sm rfl (.sm rfl .nil))))))))) .nil)) (Zfv h ?_ (fun s hs=>hs))
 ·intro out1 h _ hw1
  refine Sv.weak hw1<|Sv.seq<|ssr<|un1 (v:=(.c (.ref 0 8 0 5))) rfl<|un1 (v:=(B u_.Asks)) rfl<|dnil ?_
  refine Sv.cnd rfl h (fun h=>?_) fun h=>?_
  ·refine srg<|un1 rfl<|un1 (v:=(.c (.ref 0 8 0 4))) rfl<|un1 (v:=(S u_.Query)) rfl ?_
   obtain ⟨r_6,hx6,h⟩:=bnd h
   refine un1 (v:=(S r_6)) (s_cat rfl rfl hx6) ?_
   obtain ⟨r_7,hx7,h⟩:=bnd h
   refine un1 (v:=(S r_7)) (s_cat rfl rfl hx7)<|un1 rfl<|dnil ?_
   exact Sv.weak (wcn [0] rfl (.cf rfl rfl (.cr rfl rfl rfl .nil)) (.box (by decide) rfl (blkAs_cells (.sm rfl (.sm rfl (.sm rfl (.sm rfl (.sm rfl (.sm rfl (.sm rfl (.sm rfl .nil))))))))) .nil)) (Zaz h)
  ·refine Sv.skip ?_
   exact Sv.weak (wcn [0] rfl (.cf rfl rfl (.cr rfl rfl rfl .nil)) (.box (by decide) rfl (blkAs_cells (.sm rfl (.sm rfl (.sm rfl (.sm rfl (.sm rfl (.sm rfl (.sm rfl (.sm rfl .nil))))))))) .nil)) (Zaz h)
end Go.Proofs.YtngonchkhmjenaaGreatDoorBv
