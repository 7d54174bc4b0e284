/- Printed by a program of mine (bgen.py): plain functions, and the walks that show that the code comes to what they answer. -/
import Derived.Test.YtnfgjdbajefoiaaGreatDoorGWeightPaths1
namespace Go.Proofs.YtnfgjdbajefoiaaGreatDoorBv
open Go
set_option linter.unusedVariables false
set_option linter.unusedSimpArgs false
set_option maxRecDepth 100000
def a71_c0:ACode:=(.cond (.tmp 27) .skip (.exit 0))
def a71_c1:ACode:=(.block 1 (.region [(mV 28 4),(oP 29 (.bin .add (.tmp 28) (kI 1))),(mV 4 29)]))
def a71_c2:ACode:=(.seq (sr [(mV 18 4),(mV 19 0),(oP 20 (.lenS (.tmp 19))),(oP 21 (.bin .lss (.tmp 18) (.tmp 20))),(mV 22 21),⟨(some 23),(.mov (.tmp 0)),(some (22,true))⟩,⟨(some 24),(.mov (.tmp 4)),(some (22,true))⟩,⟨(some 25),(.idxS (.tmp 23) (.tmp 24)),(some (22,true))⟩,⟨(some 26),(.call 82 [(.tmp 25)]),(some (22,true))⟩,(oP 27 (.pick (.tmp 22) (.tmp 26) kF))]
 a71_c0)
 a71_c1)
def a71_c3:ACode:=(.cond (.tmp 40) (sr [(mV 41 0),(oP 42 (.call 84 [(.tmp 41)])),(oN (.store 4 (.tmp 2) (.tmp 42)))]
 .ret) .skip)
def a71_c4:ACode:=(.cond (.tmp 77) (sr [(mV 79 0),(oP 80 (.call 90 [(.tmp 79),(kI 1)])),(mV 78 80),(oP 81 (.ext (.tmp 78) 0)),(oP 82 (.ext (.tmp 78) 1)),(mV 7 81),(mV 8 82)]
 (sr [(mV 83 0),(mV 84 8),(oP 85 (.slStr (.tmp 83) none (some (.tmp 84)))),(mV 86 7),(oP 87 (.build [(.val (.int .i64 0)),(.str []),(.str []),(.val (.int .i64 0))] [(0,(1,(kI 4))),(1,(1,(.tmp 85))),(2,(1,(.tmp 86)))])),(oN (.store 4 (.tmp 2) (.tmp 87)))]
 .ret)) .skip)
def a71_c5:ACode:=(.cond (.tmp 93) (sr [(mV 95 0),(oP 96 (.call 90 [(.tmp 95),(kI 1)])),(mV 94 96),(oP 97 (.ext (.tmp 94) 0)),(oP 98 (.ext (.tmp 94) 1)),(mV 9 97),(mV 10 98)]
 (sr [(mV 99 0),(mV 100 10),(oP 101 (.slStr (.tmp 99) none (some (.tmp 100)))),(mV 102 9),(oP 103 (.build [(.val (.int .i64 0)),(.str []),(.str []),(.val (.int .i64 0))] [(0,(1,(kI 3))),(1,(1,(.tmp 101))),(2,(1,(.tmp 102)))])),(oN (.store 4 (.tmp 2) (.tmp 103)))]
 .ret)) .skip)
def a71_c8:ACode:=(sr [(mV 148 13),(mV 149 0),(oP 150 (.slStr (.tmp 149) none (some (kI 1)))),(oP 151 (.build [(.val (.int .i64 0)),(.str []),(.str []),(.val (.int .i64 0))] [(0,(1,(.tmp 148))),(1,(1,(.tmp 150)))])),(oN (.store 4 (.tmp 2) (.tmp 151)))]
 .ret)
def a71_c7:ACode:=(.seq (sr [(mV 146 3),(oP 147 (.bin .eql (.tmp 146) (.const (.c (.val (.int .u8 92))))))]
 (.cond (.tmp 147) (.region [(oP 13 (.mov (kI 6)))]) .skip))
 a71_c8)
def a71_c6:ACode:=(.seq (sr [(mV 136 3),(oP 137 (.bin .eql (.tmp 136) (.const (.c (.val (.int .u8 41)))))),(mV 138 137),⟨(some 139),(.mov (.tmp 3)),(some (138,false))⟩,⟨(some 140),(.bin .eql (.tmp 139) (.const (.c (.val (.int .u8 93))))),(some (138,false))⟩,(oP 141 (.pick (.tmp 138) kT (.tmp 140))),(mV 142 141),⟨(some 143),(.mov (.tmp 3)),(some (142,false))⟩,⟨(some 144),(.bin .eql (.tmp 143) (.const (.c (.val (.int .u8 125))))),(some (142,false))⟩,(oP 145 (.pick (.tmp 142) kT (.tmp 144)))]
 (.cond (.tmp 145) (.region [(oP 13 (.mov (kI 11)))]) .skip))
 a71_c7)
def a71_c9:ACode:=(.seq (sr [(mV 104 0),(oP 105 (.call 91 [(.tmp 104),(kI 0)]))]
 (.cond (.tmp 105) (sr [(mV 107 0),(oP 108 (.call 90 [(.tmp 107),(kI 0)])),(mV 106 108),(oP 109 (.ext (.tmp 106) 0)),(oP 110 (.ext (.tmp 106) 1)),(mV 11 109),(mV 12 110)]
 (.seq (sr [(mV 111 0),(mV 112 12),(oP 113 (.call 83 [(.tmp 111),(.tmp 112)])),(oP 114 (.bin .eql (.tmp 113) (.const (.c (.val (.int .u8 40))))))]
 (.cond (.tmp 114) (sr [(mV 115 0),(mV 116 12),(oP 117 (.bin .add (.tmp 116) (kI 1))),(oP 118 (.slStr (.tmp 115) none (some (.tmp 117)))),(mV 119 11),(oP 120 (.build [(.val (.int .i64 0)),(.str []),(.str []),(.val (.int .i64 0))] [(0,(1,(kI 2))),(1,(1,(.tmp 118))),(2,(1,(.tmp 119)))])),(oN (.store 4 (.tmp 2) (.tmp 120)))]
 .ret) .skip))
 (sr [(mV 121 0),(mV 122 12),(oP 123 (.slStr (.tmp 121) none (some (.tmp 122)))),(mV 124 11),(oP 125 (.build [(.val (.int .i64 0)),(.str []),(.str []),(.val (.int .i64 0))] [(0,(1,(kI 1))),(1,(1,(.tmp 123))),(2,(1,(.tmp 124)))])),(oN (.store 4 (.tmp 2) (.tmp 125)))]
 .ret))) .skip))
 (sr [(oP 13 (.mov (kI 12)))]
 (.seq (sr [(mV 126 3),(oP 127 (.bin .eql (.tmp 126) (.const (.c (.val (.int .u8 40)))))),(mV 128 127),⟨(some 129),(.mov (.tmp 3)),(some (128,false))⟩,⟨(some 130),(.bin .eql (.tmp 129) (.const (.c (.val (.int .u8 91))))),(some (128,false))⟩,(oP 131 (.pick (.tmp 128) kT (.tmp 130))),(mV 132 131),⟨(some 133),(.mov (.tmp 3)),(some (132,false))⟩,⟨(some 134),(.bin .eql (.tmp 133) (.const (.c (.val (.int .u8 123))))),(some (132,false))⟩,(oP 135 (.pick (.tmp 132) kT (.tmp 134)))]
 (.cond (.tmp 135) (.region [(oP 13 (.mov (kI 10)))]) .skip))
 a71_c6)))
def a71_c10:ACode:=(.seq (sr [(mV 88 3),(oP 89 (.bin .eql (.tmp 88) (.const (.c (.val (.int .u8 64)))))),(mV 90 89),⟨(some 91),(.mov (.tmp 0)),(some (90,true))⟩,⟨(some 92),(.call 91 [(.tmp 91),(kI 1)]),(some (90,true))⟩,(oP 93 (.pick (.tmp 90) (.tmp 92) kF))]
 a71_c5)
 a71_c9)
def a71_c11:ACode:=(.seq (sr [(mV 43 3),(oP 44 (.bin .eql (.tmp 43) (.const (.c (.val (.int .u8 39)))))),(mV 45 44),⟨(some 46),(.mov (.tmp 3)),(some (45,false))⟩,⟨(some 47),(.bin .eql (.tmp 46) (.const (.c (.val (.int .u8 34))))),(some (45,false))⟩,(oP 48 (.pick (.tmp 45) kT (.tmp 47)))]
 (.cond (.tmp 48) (sr [(mV 49 0),(oP 50 (.call 85 [(.tmp 49)])),(oN (.store 4 (.tmp 2) (.tmp 50)))]
 .ret) .skip))
 (sr [(mV 52 0),(oP 53 (.call 86 [(.tmp 52)])),(mV 51 53),(oP 54 (.ext (.tmp 51) 0)),(oP 55 (.ext (.tmp 51) 1)),(mV 5 54),(mV 6 55)]
 (.seq (sr [(mV 56 6),(oP 57 (.bin .gtr (.tmp 56) (kI 0)))]
 (.cond (.tmp 57) (sr [(mV 58 0),(mV 59 5),(mV 60 6),(oP 61 (.call 87 [(.tmp 58),(.tmp 59),(.tmp 60)])),(oN (.store 4 (.tmp 2) (.tmp 61)))]
 .ret) .skip))
 (.seq (sr [(mV 62 3),(oP 63 (.bin .eql (.tmp 62) (.const (.c (.val (.int .u8 35)))))),(mV 64 63),⟨(some 65),(.mov (.tmp 0)),(some (64,true))⟩,⟨(some 66),(.call 83 [(.tmp 65),(kI 1)]),(some (64,true))⟩,⟨(some 67),(.call 88 [(.tmp 66)]),(some (64,true))⟩,⟨(some 68),(.mov (.tmp 67)),(some (64,true))⟩,⟨(some 69),(.mov (.tmp 0)),(some (68,true))⟩,⟨(some 70),(.lenS (.tmp 69)),(some (68,true))⟩,⟨(some 71),(.bin .gtr (.tmp 70) (kI 1)),(some (68,true))⟩,⟨(some 72),(.pick (.tmp 68) (.tmp 71) kF),(some (64,true))⟩,⟨(some 73),(.mov (.tmp 72)),(some (64,true))⟩,⟨(some 74),(.mov (.tmp 0)),(some (73,false))⟩,⟨(some 75),(.call 89 [(.tmp 74),(kI 1)]),(some (73,false))⟩,⟨(some 76),(.pick (.tmp 73) kT (.tmp 75)),(some (64,true))⟩,(oP 77 (.pick (.tmp 64) (.tmp 76) kF))]
 a71_c4)
 a71_c10))))
def a71:AFunc:=⟨1,[(.cell true 4 2)],(sr [(oP 2 (.box (.const (.agg [(.val (.int .i64 0)),(.str []),(.str []),(.val (.int .i64 0))]))))]
 (sr [(mV 14 0),(oP 15 (.idxS (.tmp 14) (kI 0))),(mV 3 15)]
 (.seq (sr [(mV 16 3),(oP 17 (.call 82 [(.tmp 16)]))]
 (.cond (.tmp 17) (sr [(oP 4 (.mov (kI 0)))]
 (.seq (.block 0 (.loop a71_c2))
 (sr [(mV 30 0),(mV 31 4),(oP 32 (.slStr (.tmp 30) none (some (.tmp 31)))),(oP 33 (.build [(.val (.int .i64 0)),(.str []),(.str []),(.val (.int .i64 0))] [(0,(1,(kI 8))),(1,(1,(.tmp 32)))])),(oN (.store 4 (.tmp 2) (.tmp 33)))]
 .ret))) .skip))
 (.seq (sr [(mV 34 3),(oP 35 (.bin .eql (.tmp 34) (.const (.c (.val (.int .u8 47)))))),(mV 36 35),⟨(some 37),(.mov (.tmp 0)),(some (36,true))⟩,⟨(some 38),(.call 83 [(.tmp 37),(kI 1)]),(some (36,true))⟩,⟨(some 39),(.bin .eql (.tmp 38) (.const (.c (.val (.int .u8 42))))),(some (36,true))⟩,(oP 40 (.pick (.tmp 36) (.tmp 39) kF))]
 a71_c3)
 a71_c11))))⟩
theorem c71:compFunc Tryz.prog 71=some a71:=by kernel_rfl
def Zz (r:TSToken):AV→Heap→Nat→Prop:=fun v h' n' => v=(.agg (e_TSToken r))∧(h' = e0)∧n' = 0
abbrev Zbl (s_:Tx) (F_:Int→Option TSToken) (o:TSToken) (R_:St→Prop):Prop:=∀(i_:Int),F_ i_=some o→∀ s,Weak 0 s ⟨(ue [(4,(I i_)),(2,(.c (.ref 0 4 0 0))),(0,(S s_))]),(upd e0 0 (some (.cells 4 [[cI 0,.str [],.str [],cI 0]]))),1⟩→R_ s
abbrev Zbm (s_:Tx) (F_:Int→Option TSToken) (o:TSToken) (R_:St→Prop):Prop:=∀(i_1:Int),F_ i_1=some o→∀ s,Weak 0 s ⟨(ue [(4,(I i_1)),(2,(.c (.ref 0 4 0 0))),(0,(S s_))]),(upd e0 0 (some (.cells 4 [[cI 0,.str [],.str [],cI 0]]))),1⟩→R_ s
abbrev Zge (mL:Int) (Q:AExit→St→Prop):AExit→St→Prop:=AThen (Sv Tryz.prog (GG mL) 0 a71_c1 Q) Q
noncomputable def Z56 (i_:Int) (s_:Tx) (self:Int→Option TSToken) (K0_:Int→Option TSToken) (v27:Bool):Option TSToken :=
 if v27 then
  self (wi (i_+1))
 else
  K0_ i_
theorem Zbn {mL:Int}{Q:AExit→St→Prop}{i_:Int}{s_:Tx}{self:Int→Option TSToken}{K0_:Int→Option TSToken}{v27:Bool}{o:TSToken}(h:Z56 i_ s_ self K0_ v27=some o)
  (hself:Zbl s_ self o (Q .normal))
  (hK0:Zbm s_ K0_ o (Q (.exit 0)))
  (hr:∀ s,Ends a71.results 0 (Zz o) .ret s→Q .ret s) :
  Sv Tryz.prog (GG mL) 0 a71_c0 (Zge mL Q) ⟨(ue [(27,(B v27)),(4,(I i_)),(2,(.c (.ref 0 4 0 0))),(0,(S s_))]),(upd e0 0 (some (.cells 4 [[cI 0,.str [],.str [],cI 0]]))),1⟩:=by
 unfold Z56 at h
 refine Sv.cnd rfl h (fun h=>?_) fun h=>?_
 ·refine Sv.skip<|Sv.block<|srg<|un1 rfl<|un1 (v:=(I (wi (i_+1)))) rfl<|un1 rfl<|dnil ?_
  exact hself (wi (i_+1)) h _ (wcn [0] rfl (.cf rfl rfl (.cr rfl rfl rfl (.cf rfl rfl .nil))) (.box (by decide) rfl (blkAs_cells (.sm rfl (.sm rfl (.sm rfl (.sm rfl .nil))))) .nil))
 ·refine Sv.exit ?_
  exact hK0 i_ h _ (wcn [0] rfl (.cf rfl rfl (.cr rfl rfl rfl (.cf rfl rfl .nil))) (.box (by decide) rfl (blkAs_cells (.sm rfl (.sm rfl (.sm rfl (.sm rfl .nil))))) .nil))
abbrev Zbo (s_:Tx) (F_:Nat→Int→Option TSToken) (o:TSToken):Nat→St→Prop:=fun k s=>∃(i_:Int),F_ k i_=some o∧s=⟨(ue [(4,(I i_)),(2,(.c (.ref 0 4 0 0))),(0,(S s_))]),(upd e0 0 (some (.cells 4 [[cI 0,.str [],.str [],cI 0]]))),1⟩
noncomputable def Z1m (s_:Tx) (K0_:Int→Option TSToken):Nat→Int→Option TSToken
 | 0,_=>none
 | k+1,i_ =>
  if decide (i_<(s_.length:Int)) then
   (at? s_ i_).bind fun c_1 =>
   Z56 i_ s_ (Z1m s_ K0_ k) K0_ (Z2b (c_1.toNat:Int))
  else
   Z56 i_ s_ (Z1m s_ K0_ k) K0_ false
theorem Zgf {mL:Int}{Q:AExit→St→Prop}{s_:Tx}{K0_:Int→Option TSToken}{k:Nat}{i_:Int}{o:TSToken}(h:Z1m s_ K0_ k i_=some o)
  (hK0:Zbm s_ K0_ o (Q (.exit 0)))
  (hr:∀ s,Ends a71.results 0 (Zz o) .ret s→Q .ret s) :
  Sv Tryz.prog (GG mL) 0 (.loop a71_c2) Q ⟨(ue [(4,(I i_)),(2,(.c (.ref 0 4 0 0))),(0,(S s_))]),(upd e0 0 (some (.cells 4 [[cI 0,.str [],.str [],cI 0]]))),1⟩:=by
 refine Sv.loop (I:=Zbo s_ (Z1m s_ K0_) o) (fun k s hI=>?_) ⟨i_,h,rfl⟩
 clear h
 clear i_
 obtain ⟨i_,h,rfl⟩:=hI
 cases k with
 | zero=>cases h
 | succ k =>
 rw [Z1m] at h
 have hself:Zbl s_ (Z1m s_ K0_ k) o (rnd 0 (Zbo s_ (Z1m s_ K0_) o) k Q):=fun i_ h s hw=>⟨_,k,hw,Nat.lt_succ_self k,i_,h,rfl⟩
 refine Sv.seq<|ssr<|un1 rfl<|un1 rfl<|un1 (v:=(I (s_.length:Int))) rfl<|un1 (v:=(B (decide (i_<(s_.length:Int))))) rfl<|un1 rfl ?_
 refine spl h (fun h=>?_) fun h=>?_
 ·refine gt rfl<|a1 rfl<|gt rfl<|a1 rfl ?_
  obtain ⟨c_1,hx2,h⟩:=bnd h
  refine gt rfl<|a1 (v:=(.c (.val (.int .u8 (c_1.toNat:Int))))) (s_idxS rfl rfl hx2)<|gt rfl<|ac_pure (Zaq (mL:=mL) (c_1.toNat:Int)) rfl rfl rfl<|un1 (v:=(B (Z2b (c_1.toNat:Int)))) rfl<|dnil ?_
  exact Sv.weak (wcn [0] rfl (.cf rfl rfl (.cf rfl rfl (.cr rfl rfl rfl (.cf rfl rfl .nil)))) (.box (by decide) rfl (blkAs_cells (.sm rfl (.sm rfl (.sm rfl (.sm rfl .nil))))) .nil)) (Zbn h hself hK0 hr)
 ·refine gs rfl rfl<|gs rfl rfl<|gs rfl rfl<|gs rfl rfl<|un1 (v:=(B false)) rfl<|dnil ?_
  exact Sv.weak (wcn [0] rfl (.cf rfl rfl (.cf rfl rfl (.cr rfl rfl rfl (.cf rfl rfl .nil)))) (.box (by decide) rfl (blkAs_cells (.sm rfl (.sm rfl (.sm rfl (.sm rfl .nil))))) .nil)) (Zbn h hself hK0 hr)
noncomputable def Z57 (s_:Tx) (kind2:Int):Option TSToken :=
 (sub? s_ 0 1).bind fun r_14 =>
 some (⟨kind2,r_14,[],0⟩:TSToken)
theorem Zbp {mL:Int}{s_:Tx}{kind2:Int}{o:TSToken}(h:Z57 s_ kind2=some o) :
  Sv Tryz.prog (GG mL) 0 a71_c8 (Ends a71.results 0 (Zz o)) ⟨(ue [(13,(I kind2)),(2,(.c (.ref 0 4 0 0))),(0,(S s_))]),(upd e0 0 (some (.cells 4 [[cI 0,.str [],.str [],cI 0]]))),1⟩:=by
 unfold Z57 at h
 refine ssr<|un1 rfl<|un1 rfl ?_
 obtain ⟨r_14,hx8,h⟩:=bnd h
 refine un1 (v:=(S r_14)) (s_slStr rfl rfl rfl hx8)<|un1 (v:=(.agg [cI kind2,.str r_14,.str [],cI 0])) rfl<|un<|a2n (h' := upd _ 0 (some (.cells 4 [[cI kind2,.str r_14,.str [],cI 0]]))) (n' := 1) rfl rfl hcs<|dnil<|Sv.ret ?_
 exact rt0 h rfl rfl ⟨rfl,rfl,rfl⟩
noncomputable def Z58 (c_:UInt8) (s_:Tx) (kind1:Int):Option TSToken :=
 if decide ((c_.toNat:Int)=92) then
  Z57 s_ 6
 else
  Z57 s_ kind1
theorem Zbq {mL:Int}{c_:UInt8}{s_:Tx}{kind1:Int}{o:TSToken}(h:Z58 c_ s_ kind1=some o) :
  Sv Tryz.prog (GG mL) 0 a71_c7 (Ends a71.results 0 (Zz o)) ⟨(ue [(13,(I kind1)),(3,(.c (.val (.int .u8 (c_.toNat:Int))))),(2,(.c (.ref 0 4 0 0))),(0,(S s_))]),(upd e0 0 (some (.cells 4 [[cI 0,.str [],.str [],cI 0]]))),1⟩:=by
 unfold Z58 at h
 refine Sv.seq<|ssr<|un1 rfl<|un1 (v:=(B (decide ((c_.toNat:Int)=92)))) rfl<|dnil ?_
 refine Sv.cnd rfl h (fun h=>?_) fun h=>?_
 ·refine srg<|un1 rfl<|dnil ?_
  exact Sv.weak (wcn [0] rfl (.cf rfl rfl (.cr rfl rfl rfl (.cf rfl rfl .nil))) (.box (by decide) rfl (blkAs_cells (.sm rfl (.sm rfl (.sm rfl (.sm rfl .nil))))) .nil)) (Zbp h)
 ·refine Sv.skip ?_
  exact Sv.weak (wcn [0] rfl (.cf rfl rfl (.cr rfl rfl rfl (.cf rfl rfl .nil))) (.box (by decide) rfl (blkAs_cells (.sm rfl (.sm rfl (.sm rfl (.sm rfl .nil))))) .nil)) (Zbp h)
noncomputable def Z2v (c_:UInt8) (s_:Tx) (kind:Int):Option TSToken :=
 if (((decide ((c_.toNat:Int)=41))||(decide ((c_.toNat:Int)=93)))||(decide ((c_.toNat:Int)=125))) then
  Z58 c_ s_ 11
 else
  Z58 c_ s_ kind
theorem Zbr {mL:Int}{c_:UInt8}{s_:Tx}{kind:Int}{o:TSToken}(h:Z2v c_ s_ kind=some o) :
  Sv Tryz.prog (GG mL) 0 a71_c6 (Ends a71.results 0 (Zz o)) ⟨(ue [(13,(I kind)),(3,(.c (.val (.int .u8 (c_.toNat:Int))))),(2,(.c (.ref 0 4 0 0))),(0,(S s_))]),(upd e0 0 (some (.cells 4 [[cI 0,.str [],.str [],cI 0]]))),1⟩:=by
 unfold Z2v at h
 refine Sv.seq<|ssr<|un1 rfl<|un1 (v:=(B (decide ((c_.toNat:Int)=41)))) rfl<|un1 rfl ?_
 refine gjoin 3 (d:=141) (v:=(B ((decide ((c_.toNat:Int)=41))||(decide ((c_.toNat:Int)=93))))) (fun X hX=>?_) ?_
 ·refine split2 (fun hc13=>?_) (fun hc13=>?_)
  ·refine gs rfl rfl<|gs rfl rfl<|un1 (v:=(B true)) rfl<|dnil ?_
   exact hX _ (.putEq (by rw [hc13]; rfl) (.skp (.skp (.putEq (by rw [hc13]) (.refl _)) rfl) rfl))
  ·refine gt rfl<|a1 rfl<|gt rfl<|a1 (v:=(B (decide ((c_.toNat:Int)=93)))) rfl<|un1 (v:=(B (decide ((c_.toNat:Int)=93)))) rfl<|dnil ?_
   exact hX _ (.putEq (by rw [hc13]; rfl) (.skp (.skp (.putEq (by rw [hc13]) (.refl _)) rfl) rfl))
 refine un1 rfl ?_
 refine gjoin 3 (d:=145) (v:=(B (((decide ((c_.toNat:Int)=41))||(decide ((c_.toNat:Int)=93)))||(decide ((c_.toNat:Int)=125))))) (fun X hX=>?_) ?_
 ·refine split2 (fun hc14=>?_) (fun hc14=>?_)
  ·refine gs rfl rfl<|gs rfl rfl<|un1 (v:=(B true)) rfl<|dnil ?_
   exact hX _ (.putEq (by rw [hc14]; rfl) (.skp (.skp (.putEq (by rw [hc14]) (.refl _)) rfl) rfl))
  ·refine gt rfl<|a1 rfl<|gt rfl<|a1 (v:=(B (decide ((c_.toNat:Int)=125)))) rfl<|un1 (v:=(B (decide ((c_.toNat:Int)=125)))) rfl<|dnil ?_
   exact hX _ (.putEq (by rw [hc14]; rfl) (.skp (.skp (.putEq (by rw [hc14]) (.refl _)) rfl) rfl))
 refine dnil ?_
 refine Sv.cnd rfl h (fun h=>?_) fun h=>?_
 ·refine srg<|un1 rfl<|dnil ?_
  exact Sv.weak (wcn [0] rfl (.cf rfl rfl (.cf rfl rfl (.cr rfl rfl rfl (.cf rfl rfl .nil)))) (.box (by decide) rfl (blkAs_cells (.sm rfl (.sm rfl (.sm rfl (.sm rfl .nil))))) .nil)) (Zbq h)
 ·refine Sv.skip ?_
  exact Sv.weak (wcn [0] rfl (.cf rfl rfl (.cf rfl rfl (.cr rfl rfl rfl (.cf rfl rfl .nil)))) (.box (by decide) rfl (blkAs_cells (.sm rfl (.sm rfl (.sm rfl (.sm rfl .nil))))) .nil)) (Zbq h)
abbrev Zgg (mL:Int) (o:TSToken):AExit→St→Prop:=AThen (Sv Tryz.prog (GG mL) 0 a71_c9 (Ends a71.results 0 (Zz o))) (Ends a71.results 0 (Zz o))
noncomputable def Z42 (s_:Tx) (c_:UInt8) (v93:Bool):Option TSToken :=
 if v93 then
  (Z1w s_ 1).bind fun r_7 =>
  (sub? s_ 0 r_7.2).bind fun r_8 =>
  some (⟨3,r_8,r_7.1,0⟩:TSToken)
 else
  (Z2u s_ 0).bind fun r_9 =>
  if r_9 then
   (Z1w s_ 0).bind fun r_10 =>
   (Zm s_ r_10.2).bind fun r_11 =>
   if decide (r_11=40) then
    (sub? s_ 0 (wi (r_10.2+1))).bind fun r_12 =>
    some (⟨2,r_12,r_10.1,0⟩:TSToken)
   else
    (sub? s_ 0 r_10.2).bind fun r_13 =>
    some (⟨1,r_13,r_10.1,0⟩:TSToken)
  else
   if (((decide ((c_.toNat:Int)=40))||(decide ((c_.toNat:Int)=91)))||(decide ((c_.toNat:Int)=123))) then
    Z2v c_ s_ 10
   else
    Z2v c_ s_ 12
theorem Zbs {mL:Int}{s_:Tx}{c_:UInt8}{v93:Bool}{o:TSToken}(h:Z42 s_ c_ v93=some o) :
  Sv Tryz.prog (GG mL) 0 a71_c5 (Zgg mL o) ⟨(ue [(93,(B v93)),(3,(.c (.val (.int .u8 (c_.toNat:Int))))),(2,(.c (.ref 0 4 0 0))),(0,(S s_))]),(upd e0 0 (some (.cells 4 [[cI 0,.str [],.str [],cI 0]]))),1⟩:=by
 unfold Z42 at h
 refine Sv.cnd rfl h (fun h=>?_) fun h=>?_
 ·refine ssr<|un1 rfl ?_
  obtain ⟨r_7,hr6,h⟩:=bnd h
  refine un<|ac_pure (Z6c hr6) rfl rfl rfl<|un1 rfl<|un1 (v:=(S r_7.1)) rfl<|un1 (v:=(I r_7.2)) rfl<|un1 rfl<|un1 rfl<|dnil<|ssr<|un1 rfl<|un1 rfl ?_
  obtain ⟨r_8,hx5,h⟩:=bnd h
  refine un1 (v:=(S r_8)) (s_slStr rfl rfl rfl hx5)<|un1 rfl<|un1 (v:=(.agg [cI 3,.str r_8,.str r_7.1,cI 0])) rfl<|un<|a2n (h' := upd _ 0 (some (.cells 4 [[cI 3,.str r_8,.str r_7.1,cI 0]]))) (n' := 1) rfl rfl hcs<|dnil<|Sv.ret ?_
  exact rt0 h rfl rfl ⟨rfl,rfl,rfl⟩
 ·refine Sv.skip<|Sv.seq<|ssr<|un1 rfl ?_
  obtain ⟨r_9,hr7,h⟩:=bnd h
  refine un<|ac_pure (Z7v hr7) rfl rfl rfl<|dnil ?_
  refine Sv.cnd rfl h (fun h=>?_) fun h=>?_
  ·refine ssr<|un1 rfl ?_
   obtain ⟨r_10,hr8,h⟩:=bnd h
   refine un<|ac_pure (Z6c hr8) rfl rfl rfl<|un1 rfl<|un1 (v:=(S r_10.1)) rfl<|un1 (v:=(I r_10.2)) rfl<|un1 rfl<|un1 rfl<|dnil<|Sv.seq<|ssr<|un1 rfl<|un1 rfl ?_
   obtain ⟨r_11,hr9,h⟩:=bnd h
   refine un<|ac_pure (Z1u hr9) rfl rfl rfl<|un1 (v:=(B (decide (r_11=40)))) rfl<|dnil ?_
   refine Sv.cnd rfl h (fun h=>?_) fun h=>?_
   ·refine ssr<|un1 rfl<|un1 rfl<|un1 (v:=(I (wi (r_10.2+1)))) rfl ?_
    obtain ⟨r_12,hx6,h⟩:=bnd h
    refine un1 (v:=(S r_12)) (s_slStr rfl rfl rfl hx6)<|un1 rfl<|un1 (v:=(.agg [cI 2,.str r_12,.str r_10.1,cI 0])) rfl<|un<|a2n (h' := upd _ 0 (some (.cells 4 [[cI 2,.str r_12,.str r_10.1,cI 0]]))) (n' := 1) rfl rfl hcs<|dnil<|Sv.ret ?_
    exact rt0 h rfl rfl ⟨rfl,rfl,rfl⟩
   ·refine Sv.skip<|ssr<|un1 rfl<|un1 rfl ?_
    obtain ⟨r_13,hx7,h⟩:=bnd h
    refine un1 (v:=(S r_13)) (s_slStr rfl rfl rfl hx7)<|un1 rfl<|un1 (v:=(.agg [cI 1,.str r_13,.str r_10.1,cI 0])) rfl<|un<|a2n (h' := upd _ 0 (some (.cells 4 [[cI 1,.str r_13,.str r_10.1,cI 0]]))) (n' := 1) rfl rfl hcs<|dnil<|Sv.ret ?_
    exact rt0 h rfl rfl ⟨rfl,rfl,rfl⟩
  ·refine Sv.skip<|ssr<|un1 rfl<|dnil<|Sv.seq<|ssr<|un1 rfl<|un1 (v:=(B (decide ((c_.toNat:Int)=40)))) rfl<|un1 rfl ?_
   refine gjoin 3 (d:=131) (v:=(B ((decide ((c_.toNat:Int)=40))||(decide ((c_.toNat:Int)=91))))) (fun X hX=>?_) ?_
   ·refine split2 (fun hc16=>?_) (fun hc16=>?_)
    ·refine gs rfl rfl<|gs rfl rfl<|un1 (v:=(B true)) rfl<|dnil ?_
     exact hX _ (.putEq (by rw [hc16]; rfl) (.skp (.skp (.putEq (by rw [hc16]) (.refl _)) rfl) rfl))
    ·refine gt rfl<|a1 rfl<|gt rfl<|a1 (v:=(B (decide ((c_.toNat:Int)=91)))) rfl<|un1 (v:=(B (decide ((c_.toNat:Int)=91)))) rfl<|dnil ?_
     exact hX _ (.putEq (by rw [hc16]; rfl) (.skp (.skp (.putEq (by rw [hc16]) (.refl _)) rfl) rfl))
   refine un1 rfl ?_
   refine gjoin 3 (d:=135) (v:=(B (((decide ((c_.toNat:Int)=40))||(decide ((c_.toNat:Int)=91)))||(decide ((c_.toNat:Int)=123))))) (fun X hX=>?_) ?_
   ·refine split2 (fun hc17=>?_) (fun hc17=>?_)
    ·refine gs rfl rfl<|gs rfl rfl<|un1 (v:=(B true)) rfl<|dnil ?_
     exact hX _ (.putEq (by rw [hc17]; rfl) (.skp (.skp (.putEq (by rw [hc17]) (.refl _)) rfl) rfl))
    ·refine gt rfl<|a1 rfl<|gt rfl<|a1 (v:=(B (decide ((c_.toNat:Int)=123)))) rfl<|un1 (v:=(B (decide ((c_.toNat:Int)=123)))) rfl<|dnil ?_
     exact hX _ (.putEq (by rw [hc17]; rfl) (.skp (.skp (.putEq (by rw [hc17]) (.refl _)) rfl) rfl))
   refine dnil ?_
   refine Sv.cnd rfl h (fun h=>?_) fun h=>?_
   ·refine srg<|un1 rfl<|dnil ?_
    exact Sv.weak (wcn [0] rfl (.cf rfl rfl (.cf rfl rfl (.cr rfl rfl rfl (.cf rfl rfl .nil)))) (.box (by decide) rfl (blkAs_cells (.sm rfl (.sm rfl (.sm rfl (.sm rfl .nil))))) .nil)) (Zbr h)
   ·refine Sv.skip ?_
    exact Sv.weak (wcn [0] rfl (.cf rfl rfl (.cf rfl rfl (.cr rfl rfl rfl (.cf rfl rfl .nil)))) (.box (by decide) rfl (blkAs_cells (.sm rfl (.sm rfl (.sm rfl (.sm rfl .nil))))) .nil)) (Zbr h)
abbrev Zgh (mL:Int) (o:TSToken):AExit→St→Prop:=AThen (Sv Tryz.prog (GG mL) 0 a71_c10 (Ends a71.results 0 (Zz o))) (Ends a71.results 0 (Zz o))
noncomputable def Z2w (s_:Tx) (c_:UInt8) (v77:Bool):Option TSToken :=
 if v77 then
  (Z1w s_ 1).bind fun r_5 =>
  (sub? s_ 0 r_5.2).bind fun r_6 =>
  some (⟨4,r_6,r_5.1,0⟩:TSToken)
 else
  if decide ((c_.toNat:Int)=64) then
   (Z2u s_ 1).bind fun r_15 =>
   Z42 s_ c_ r_15
  else
   Z42 s_ c_ false
theorem Z82 {mL:Int}{s_:Tx}{c_:UInt8}{v77:Bool}{o:TSToken}(h:Z2w s_ c_ v77=some o) :
  Sv Tryz.prog (GG mL) 0 a71_c4 (Zgh mL o) ⟨(ue [(77,(B v77)),(3,(.c (.val (.int .u8 (c_.toNat:Int))))),(2,(.c (.ref 0 4 0 0))),(0,(S s_))]),(upd e0 0 (some (.cells 4 [[cI 0,.str [],.str [],cI 0]]))),1⟩:=by
 unfold Z2w at h
 refine Sv.cnd rfl h (fun h=>?_) fun h=>?_
 ·refine ssr<|un1 rfl ?_
  obtain ⟨r_5,hr5,h⟩:=bnd h
  refine un<|ac_pure (Z6c hr5) rfl rfl rfl<|un1 rfl<|un1 (v:=(S r_5.1)) rfl<|un1 (v:=(I r_5.2)) rfl<|un1 rfl<|un1 rfl<|dnil<|ssr<|un1 rfl<|un1 rfl ?_
  obtain ⟨r_6,hx4,h⟩:=bnd h
  refine un1 (v:=(S r_6)) (s_slStr rfl rfl rfl hx4)<|un1 rfl<|un1 (v:=(.agg [cI 4,.str r_6,.str r_5.1,cI 0])) rfl<|un<|a2n (h' := upd _ 0 (some (.cells 4 [[cI 4,.str r_6,.str r_5.1,cI 0]]))) (n' := 1) rfl rfl hcs<|dnil<|Sv.ret ?_
  exact rt0 h rfl rfl ⟨rfl,rfl,rfl⟩
 ·refine Sv.skip<|Sv.seq<|ssr<|un1 rfl<|un1 (v:=(B (decide ((c_.toNat:Int)=64)))) rfl<|un1 rfl ?_
  refine spl h (fun h=>?_) fun h=>?_
  ·refine gt rfl<|a1 rfl ?_
   obtain ⟨r_15,hr10,h⟩:=bnd h
   refine gt rfl<|ac_pure (Z7v hr10) rfl rfl rfl<|un1 (v:=(B r_15)) rfl<|dnil ?_
   exact Sv.weak (wcn [0] rfl (.cf rfl rfl (.cf rfl rfl (.cr rfl rfl rfl (.cf rfl rfl .nil)))) (.box (by decide) rfl (blkAs_cells (.sm rfl (.sm rfl (.sm rfl (.sm rfl .nil))))) .nil)) (Zbs h)
  ·refine gs rfl rfl<|gs rfl rfl<|un1 (v:=(B false)) rfl<|dnil ?_
   exact Sv.weak (wcn [0] rfl (.cf rfl rfl (.cf rfl rfl (.cr rfl rfl rfl (.cf rfl rfl .nil)))) (.box (by decide) rfl (blkAs_cells (.sm rfl (.sm rfl (.sm rfl (.sm rfl .nil))))) .nil)) (Zbs h)
abbrev Zgi (mL:Int) (o:TSToken):AExit→St→Prop:=AThen (Sv Tryz.prog (GG mL) 0 a71_c11 (Ends a71.results 0 (Zz o))) (Ends a71.results 0 (Zz o))
noncomputable def Z2x (s_:Tx) (c_:UInt8) (v40:Bool):Option TSToken :=
 if v40 then
  (Z4s s_).bind fun r_1 =>
  some r_1
 else
  if ((decide ((c_.toNat:Int)=39))||(decide ((c_.toNat:Int)=34))) then
   (Z4u s_).bind fun r_2 =>
   some r_2
  else
   (Z4z s_).bind fun r_3 =>
   if decide (0<r_3.2) then
    (Z55 s_ r_3.1 r_3.2).bind fun r_4 =>
    some r_4
   else
    if decide ((c_.toNat:Int)=35) then
     (Zm s_ 1).bind fun r_16 =>
     if ((Z2d r_16)&&(decide (1<(s_.length:Int)))) then
      Z2w s_ c_ true
     else
      (Z1v s_ 1).bind fun r_17 =>
      Z2w s_ c_ r_17
    else
     Z2w s_ c_ false
theorem Zbt {mL:Int}{s_:Tx}{c_:UInt8}{v40:Bool}{o:TSToken}(h:Z2x s_ c_ v40=some o) :
  Sv Tryz.prog (GG mL) 0 a71_c3 (Zgi mL o) ⟨(ue [(40,(B v40)),(3,(.c (.val (.int .u8 (c_.toNat:Int))))),(2,(.c (.ref 0 4 0 0))),(0,(S s_))]),(upd e0 0 (some (.cells 4 [[cI 0,.str [],.str [],cI 0]]))),1⟩:=by
 unfold Z2x at h
 refine Sv.cnd rfl h (fun h=>?_) fun h=>?_
 ·refine ssr<|un1 rfl ?_
  obtain ⟨r_1,hr1,h⟩:=bnd h
  refine un<|ac_pure (Zfq hr1) rfl rfl rfl<|un<|a2n (h' := upd _ 0 (some (.cells 4 [(e_TSToken r_1)]))) (n' := 1) rfl rfl hcs<|dnil<|Sv.ret ?_
  exact rt0 h rfl rfl ⟨rfl,rfl,rfl⟩
 ·refine Sv.skip<|Sv.seq<|ssr<|un1 rfl<|un1 (v:=(B (decide ((c_.toNat:Int)=39)))) rfl<|un1 rfl ?_
  refine gjoin 3 (d:=48) (v:=(B ((decide ((c_.toNat:Int)=39))||(decide ((c_.toNat:Int)=34))))) (fun X hX=>?_) ?_
  ·refine split2 (fun hc5=>?_) (fun hc5=>?_)
   ·refine gs rfl rfl<|gs rfl rfl<|un1 (v:=(B true)) rfl<|dnil ?_
    exact hX _ (.putEq (by rw [hc5]; rfl) (.skp (.skp (.putEq (by rw [hc5]) (.refl _)) rfl) rfl))
   ·refine gt rfl<|a1 rfl<|gt rfl<|a1 (v:=(B (decide ((c_.toNat:Int)=34)))) rfl<|un1 (v:=(B (decide ((c_.toNat:Int)=34)))) rfl<|dnil ?_
    exact hX _ (.putEq (by rw [hc5]; rfl) (.skp (.skp (.putEq (by rw [hc5]) (.refl _)) rfl) rfl))
  refine dnil ?_
  refine Sv.cnd rfl h (fun h=>?_) fun h=>?_
  ·refine ssr<|un1 rfl ?_
   obtain ⟨r_2,hr2,h⟩:=bnd h
   refine un<|ac_pure (Zfv hr2) rfl rfl rfl<|un<|a2n (h' := upd _ 0 (some (.cells 4 [(e_TSToken r_2)]))) (n' := 1) rfl rfl hcs<|dnil<|Sv.ret ?_
   exact rt0 h rfl rfl ⟨rfl,rfl,rfl⟩
  ·refine Sv.skip<|ssr<|un1 rfl ?_
   obtain ⟨r_3,hr3,h⟩:=bnd h
   refine un<|ac_pure (Zg3 hr3) rfl rfl rfl<|un1 rfl<|un1 (v:=(I r_3.1)) rfl<|un1 (v:=(I r_3.2)) rfl<|un1 rfl<|un1 rfl<|dnil<|Sv.seq<|ssr<|un1 rfl<|un1 (v:=(B (decide (0<r_3.2)))) rfl<|dnil ?_
   refine Sv.cnd rfl h (fun h=>?_) fun h=>?_
   ·refine ssr<|un1 rfl<|un1 rfl<|un1 rfl ?_
    obtain ⟨r_4,hr4,h⟩:=bnd h
    refine un<|ac_pure (Zgd hr4) rfl rfl rfl<|un<|a2n (h' := upd _ 0 (some (.cells 4 [(e_TSToken r_4)]))) (n' := 1) rfl rfl hcs<|dnil<|Sv.ret ?_
    exact rt0 h rfl rfl ⟨rfl,rfl,rfl⟩
   ·refine Sv.skip<|Sv.seq<|ssr<|un1 rfl<|un1 (v:=(B (decide ((c_.toNat:Int)=35)))) rfl<|un1 rfl ?_
    refine spl h (fun h=>?_) fun h=>?_
    ·refine gt rfl<|a1 rfl ?_
     obtain ⟨r_16,hr11,h⟩:=bnd h
     refine gt rfl<|ac_pure (Z1u hr11) rfl rfl rfl<|gt rfl<|ac_pure (Zbd (mL:=mL) r_16) rfl rfl rfl<|gt rfl<|a1 rfl ?_
     refine gjoin 4 (d:=72) (v:=(B ((Z2d r_16)&&(decide (1<(s_.length:Int)))))) (fun X hX=>?_) ?_
     ·refine split2 (fun hc21=>?_) (fun hc21=>?_)
      ·refine gt rfl<|a1 rfl<|gt rfl<|a1 (v:=(I (s_.length:Int))) rfl<|gt rfl<|a1 (v:=(B (decide (1<(s_.length:Int))))) rfl<|gt rfl<|a1 (v:=(B (decide (1<(s_.length:Int))))) rfl<|dnil ?_
       exact hX _ (.putEq (by rw [hc21]; rfl) (.skp (.skp (.skp (.putEq (by rw [hc21]) (.refl _)) rfl) rfl) rfl))
      ·refine gs rfl rfl<|gs rfl rfl<|gs rfl rfl<|gt rfl<|a1 (v:=(B false)) rfl<|dnil ?_
       exact hX _ (.putEq (by rw [hc21]; rfl) (.skp (.skp (.skp (.putEq (by rw [hc21]) (.refl _)) rfl) rfl) rfl))
     refine gt rfl<|a1 rfl ?_
     refine spl h (fun h=>?_) fun h=>?_
     ·refine gs rfl rfl<|gs rfl rfl<|gt rfl<|a1 (v:=(B true)) rfl<|un1 (v:=(B true)) rfl<|dnil ?_
      exact Sv.weak (wcn [0] rfl (.cf rfl rfl (.cf rfl rfl (.cr rfl rfl rfl (.cf rfl rfl .nil)))) (.box (by decide) rfl (blkAs_cells (.sm rfl (.sm rfl (.sm rfl (.sm rfl .nil))))) .nil)) (Z82 h)
     ·refine gt rfl<|a1 rfl ?_
      obtain ⟨r_17,hr12,h⟩:=bnd h
      refine gt rfl<|ac_pure (Z51 hr12) rfl rfl rfl<|gt rfl<|a1 (v:=(B r_17)) rfl<|un1 (v:=(B r_17)) rfl<|dnil ?_
      exact Sv.weak (wcn [0] rfl (.cf rfl rfl (.cf rfl rfl (.cr rfl rfl rfl (.cf rfl rfl .nil)))) (.box (by decide) rfl (blkAs_cells (.sm rfl (.sm rfl (.sm rfl (.sm rfl .nil))))) .nil)) (Z82 h)
    ·repeat (first | refine gu rfl ?_ | refine gs rfl rfl ?_)
     refine un1 (v:=(B false)) rfl<|dnil ?_
     exact Sv.weak (wcn [0] rfl (.cf rfl rfl (.cf rfl rfl (.cr rfl rfl rfl (.cf rfl rfl .nil)))) (.box (by decide) rfl (blkAs_cells (.sm rfl (.sm rfl (.sm rfl (.sm rfl .nil))))) .nil)) (Z82 h)
noncomputable def Z59 (s_:Tx):Option TSToken :=
 (at? s_ 0).bind fun c_ =>
 if (Z2b (c_.toNat:Int)) then
  limF fun kk=>Z1m s_ (fun (i_1:Int) => 
    (sub? s_ 0 i_1).bind fun r_ =>
    some (⟨8,r_,[],0⟩:TSToken)) kk 0
 else
  if decide ((c_.toNat:Int)=47) then
   (Zm s_ 1).bind fun r_18 =>
   Z2x s_ c_ (decide (r_18=42))
  else
   Z2x s_ c_ false
theorem Zgj {mL:Int}{s_:Tx}{r:TSToken}(h:Z59 s_=some r):CPure Tryz.prog (GG mL) 71 [(S s_)] (.agg (e_TSToken r)):=by
 refine acalls_of_sv hmix c71 (R:=Zz r) ?_
 unfold Z59 at h
 refine ssr<|un<|a2v (v:=(.c (.ref 0 4 0 0))) (h' := upd _ 0 (some (.cells 4 [[cI 0,.str [],.str [],cI 0]]))) (n' := 1) rfl rfl hcs<|dnil<|ssr<|un1 rfl ?_
 obtain ⟨c_,hx1,h⟩:=bnd h
 refine un1 (v:=(.c (.val (.int .u8 (c_.toNat:Int))))) (s_idxS rfl rfl hx1)<|un1 rfl<|dnil<|Sv.seq<|ssr<|un1 rfl<|un<|ac_pure (Zaq (mL:=mL) (c_.toNat:Int)) rfl rfl rfl<|dnil ?_
 refine Sv.cnd rfl h (fun h=>?_) fun h=>?_
 ·refine ssr<|un1 rfl<|dnil<|Sv.seq<|Sv.block ?_
  obtain ⟨kk,h⟩:=limF_some h
  refine Sv.weak (wcn [0] rfl (.cf rfl rfl (.cr rfl rfl rfl (.cf rfl rfl .nil))) (.box (by decide) rfl (blkAs_cells (.sm rfl (.sm rfl (.sm rfl (.sm rfl .nil))))) .nil)) (Zgf h ?_ (fun s hs=>hs))
  ·intro i_1 h _ hw1
   refine Sv.weak hw1<|ssr<|un1 rfl<|un1 rfl ?_
   obtain ⟨r_,hx3,h⟩:=bnd h
   refine un1 (v:=(S r_)) (s_slStr rfl rfl rfl hx3)<|un1 (v:=(.agg [cI 8,.str r_,.str [],cI 0])) rfl<|un<|a2n (h' := upd _ 0 (some (.cells 4 [[cI 8,.str r_,.str [],cI 0]]))) (n' := 1) rfl rfl hcs<|dnil<|Sv.ret ?_
   exact rt0 h rfl rfl ⟨rfl,rfl,rfl⟩
 ·refine Sv.skip<|Sv.seq<|ssr<|un1 rfl<|un1 (v:=(B (decide ((c_.toNat:Int)=47)))) rfl<|un1 rfl ?_
  refine spl h (fun h=>?_) fun h=>?_
  ·refine gt rfl<|a1 rfl ?_
   obtain ⟨r_18,hr13,h⟩:=bnd h
   refine gt rfl<|ac_pure (Z1u hr13) rfl rfl rfl<|gt rfl<|a1 (v:=(B (decide (r_18=42)))) rfl<|un1 (v:=(B (decide (r_18=42)))) rfl<|dnil ?_
   exact Sv.weak (wcn [0] rfl (.cf rfl rfl (.cf rfl rfl (.cr rfl rfl rfl (.cf rfl rfl .nil)))) (.box (by decide) rfl (blkAs_cells (.sm rfl (.sm rfl (.sm rfl (.sm rfl .nil))))) .nil)) (Zbt h)
  ·refine gs rfl rfl<|gs rfl rfl<|gs rfl rfl<|un1 (v:=(B false)) rfl<|dnil ?_
   exact Sv.weak (wcn [0] rfl (.cf rfl rfl (.cf rfl rfl (.cr rfl rfl rfl (.cf rfl rfl .nil)))) (.box (by decide) rfl (blkAs_cells (.sm rfl (.sm rfl (.sm rfl (.sm rfl .nil))))) .nil)) (Zbt h)
def a54_c0:ACode:=(.seq (sr [(mV 5 0),(oP 6 (.lenS (.tmp 5))),(oP 7 (.bin .gtr (.tmp 6) (kI 0)))]
 (.cond (.tmp 7) .skip (.exit 0)))
 (.block 1 (sr [(mV 8 0),(oP 9 (.call 71 [(.tmp 8)])),(oP 4 (.box (.const (.agg [(.val (.int .i64 0)),(.str []),(.str []),(.val (.int .i64 0))])))),(oN (.store 4 (.tmp 4) (.tmp 9)))]
 (sr [(mV 10 3),(oP 11 (.load true 4 (.tmp 4))),(oP 12 (.bslice 4 [(.val (.int .i64 0)),(.str []),(.str []),(.val (.int .i64 0))] 1 [(0,(.tmp 11))])),(oP 13 (.app 4 48 (.tmp 10) (.tmp 12))),(mV 3 13)]
 (.region [(mV 14 0),(oP 15 (.faddr 1 (.tmp 4))),(oP 16 (.load false 1 (.tmp 15))),(oP 17 (.lenS (.tmp 16))),(oP 18 (.slStr (.tmp 14) (some (.tmp 17)) none)),(mV 0 18)])))))
def a54:AFunc:=⟨1,[(.tmp 2)],(sr [(oP 2 (.mov (.const (.c (.ro true 4 [])))))]
 (sr [(oP 3 (.mov (.const (.c (.ro true 4 [])))))]
 (.seq (.block 0 (.loop a54_c0))
 (sr [(mV 19 3),(mV 2 19)]
 .ret))))⟩
theorem c54:compFunc Tryz.prog 54=some a54:=by kernel_rfl
def Z83 (r:(List TSToken)):AV→Heap→Nat→Prop:=fun v h' n' => ∃ z0:Bool,(z0=true→r=[])∧v=(lstV z0 0 4 r.length)∧(h' = (upd e0 0 (lstB z0 4 (r.map e_TSToken))))∧n' = 1
abbrev Zgk (F_:(List TSToken)→Option (List TSToken)) (o:(List TSToken)) (R_:St→Prop):Prop:=∀(out1:(List TSToken)) (zout1:Bool) (_:zout1=true→out1=[]),F_ out1=some o→∀ s,Weak 0 s ⟨(upd e0 3 (some (lstV zout1 0 4 out1.length))),(upd e0 0 (lstB zout1 4 (out1.map e_TSToken))),1⟩→R_ s
abbrev Zbu (F_:Nat→Tx→(List TSToken)→Option (List TSToken)) (o:(List TSToken)):Nat→St→Prop:=fun k s=>∃(s_1:Tx),∃(out:(List TSToken)),∃(zout:Bool),(zout=true→out=[])∧F_ k s_1 out=some o∧s=⟨(ue [(3,(lstV zout 0 4 out.length)),(0,(S s_1))]),(upd e0 0 (lstB zout 4 (out.map e_TSToken))),1⟩
abbrev Zgl (F_:Tx→(List TSToken)→Option (List TSToken)) (o:(List TSToken)) (R_:St→Prop):Prop:=∀(s_1:Tx) (out:(List TSToken)) (zout:Bool) (_:zout=true→out=[]),F_ s_1 out=some o→∀ s,Weak 0 s ⟨(ue [(3,(lstV zout 0 4 out.length)),(0,(S s_1))]),(upd e0 0 (lstB zout 4 (out.map e_TSToken))),1⟩→R_ s
noncomputable def Z1x (K0_:(List TSToken)→Option (List TSToken)):Nat→Tx→(List TSToken)→Option (List TSToken)
 | 0,_,_=>none
 | k+1,s_1,out =>
  if decide (0<(s_1.length:Int)) then
   (Z59 s_1).bind fun r_ =>
   (app? 48 out [r_]).bind fun r_1 =>
   (sub? s_1 (r_.Raw.length:Int) (s_1.length:Int)).bind fun r_2 =>
   (Z1x K0_ k) r_2 r_1
  else
   K0_ out
theorem Zgm {mL:Int}{Q:AExit→St→Prop}{K0_:(List TSToken)→Option (List TSToken)}{k:Nat}{s_1:Tx}{out:(List TSToken)}{zout:Bool}(hzout:zout=true→out=[]) {o:(List TSToken)}(h:Z1x K0_ k s_1 out=some o)
  (hK0:Zgk K0_ o (Q (.exit 0)))
  (hr:∀ s,Ends a54.results 0 (Z83 o) .ret s→Q .ret s) :
  Sv Tryz.prog (GG mL) 0 (.loop a54_c0) Q ⟨(ue [(3,(lstV zout 0 4 out.length)),(0,(S s_1))]),(upd e0 0 (lstB zout 4 (out.map e_TSToken))),1⟩:=by
 refine Sv.loop (I:=Zbu (Z1x K0_) o) (fun k s hI=>?_) ⟨s_1,out,zout,hzout,h,rfl⟩
 clear h
 clear hzout zout out s_1
 obtain ⟨s_1,out,zout,hzout,h,rfl⟩:=hI
 cases k with
 | zero=>cases h
 | succ k =>
 rw [Z1x] at h
 have hself:Zgl (Z1x K0_ k) o (rnd 0 (Zbu (Z1x K0_) o) k Q):=fun s_1 out zout hzout h s hw=>⟨_,k,hw,Nat.lt_succ_self k,s_1,out,zout,hzout,h,rfl⟩
 refine Sv.seq<|ssr<|un1 rfl<|un1 (v:=(I (s_1.length:Int))) rfl<|un1 (v:=(B (decide (0<(s_1.length:Int))))) rfl<|dnil ?_
 refine Sv.cnd rfl h (fun h=>?_) fun h=>?_
 ·refine Sv.skip<|Sv.block<|ssr<|un1 rfl ?_
  obtain ⟨r_,hr1,h⟩:=bnd h
  refine un<|ac_pure (Zgj hr1) rfl rfl rfl<|un<|a2v (v:=(.c (.ref 1 4 0 0))) (h' := upd _ 1 (some (.cells 4 [[cI 0,.str [],.str [],cI 0]]))) (n' := 2) rfl rfl hcs<|un<|a2n (h' := upd _ 1 (some (.cells 4 [(e_TSToken r_)]))) (n' := 2) rfl rfl hcs<|dnil<|ssr<|un1 rfl<|un1 (v:=(.agg (e_TSToken r_))) rfl<|un<|a2v (v:=(lstV false 2 4 [r_].length)) (h' := upd _ 2 (lstB false 4 ([r_].map e_TSToken))) (n' := 3) rfl rfl hcs ?_
  obtain ⟨r_1,hr2,h⟩:=bnd h
  have hz1:(zout&&[r_].isEmpty)=true→r_1=[]:=app_nil (z:=zout) (ys:=[r_]) hzout hr2
  refine un<|a2v rfl (s_app (xs:=out) (ys:=[r_]) (e:=e_TSToken) (z:=zout) (b:=0) rfl rfl hzout rfl rfl (slc_lst rfl (List.length_map _).symm (map_nil_of hcs)) hr2) hcs<|un1 rfl<|dnil<|srg<|un1 rfl<|un1 (v:=(.c (.ref 1 4 0 1))) rfl<|un1 (v:=(S r_.Raw)) rfl<|un1 (v:=(I (r_.Raw.length:Int))) rfl ?_
  obtain ⟨r_2,hx1,h⟩:=bnd h
  refine un1 (v:=(S r_2)) (s_slStr rfl rfl rfl hx1)<|un1 rfl<|dnil ?_
  exact hself r_2 r_1 (zout&&[r_].isEmpty) hz1 h _ (wcn [3] rfl (.cons rfl (.c (lsr rfl rfl)) (.cf rfl rfl .nil)) (.row (by decide) rfl (fr_map fun _=>rfl) .nil))
 ·refine Sv.exit ?_
  exact hK0 out zout hzout h _ (wcn [0] rfl (.cons rfl (.c (lsr rfl rfl)) .nil) (.row (by decide) rfl (fr_map fun _=>rfl) .nil))
noncomputable def Z5a (s_:Tx):Option (List TSToken) :=
 limF fun kk=>Z1x (fun (out1:(List TSToken)) => 
   some out1) kk s_ ([]:List TSToken)
theorem Zgn {mL:Int}{s_:Tx}{r:(List TSToken)}(h:Z5a s_=some r):ACalls Tryz.prog (GG mL) 54 [(S s_)] e0 0 (Z83 r):=by
 refine acalls_of_sv hmix c54 (R:=Z83 r) ?_
 unfold Z5a at h
 refine ssr<|un1 rfl<|dnil<|ssr<|un1 rfl<|dnil<|Sv.seq<|Sv.block ?_
 obtain ⟨kk,h⟩:=limF_some h
 refine Sv.weak (wcn [1000] rfl (.cons rfl (.c (.same rfl)) (.cf rfl rfl .nil)) (.non (by decide) .nil)) (Zgm (fun _=>rfl) h ?_ (fun s hs=>hs))
 ·intro out1 zout1 hzout1 h _ hw1
  refine Sv.weak hw1<|ssr<|un1 rfl<|un1 rfl<|dnil<|Sv.ret ?_
  replace h:=Option.some.inj h
  subst h
  exact ⟨_,.refl _,_,rfl,⟨upd e0 0 (some (lstV zout1 0 4 out1.length)),(upd e0 0 (lstB zout1 4 (out1.map e_TSToken))),1⟩,(lstV zout1 0 4 out1.length),weak_canon2 [0] [0] (by decide) (by decide) nlz (.cons (by decide) .nil) (.cons rfl (.c (lsr rfl rfl)) .nil) (.row (by decide) rfl (fr_map fun _=>rfl) .nil),rfl,zout1,hzout1,rfl,rfl,rfl⟩
def a35_c0:ACode:=.ret
def a35:AFunc:=⟨1,[(.tmp 2)],(sr [(oP 2 (.mov kF))]
 (sr [(mV 4 0),(oP 5 (.call 54 [(.tmp 4)])),(mV 3 5)]
 (sr [(mV 6 3),(oP 7 (.len (.tmp 6))),(oP 8 (.bin .eql (.tmp 7) (kI 1))),(mV 9 8),⟨(some 10),(.mov (.tmp 3)),(some (9,true))⟩,⟨(some 11),(.iaddr 4 (.tmp 10) (kI 0)),(some (9,true))⟩,⟨(some 12),(.faddr 0 (.tmp 11)),(some (9,true))⟩,⟨(some 13),(.load false 1 (.tmp 12)),(some (9,true))⟩,⟨(some 14),(.bin .eql (.tmp 13) (kI 1)),(some (9,true))⟩,(oP 15 (.pick (.tmp 9) (.tmp 14) kF)),(mV 16 15),⟨(some 17),(.mov (.tmp 3)),(some (16,true))⟩,⟨(some 18),(.iaddr 4 (.tmp 17) (kI 0)),(some (16,true))⟩,⟨(some 19),(.faddr 2 (.tmp 18)),(some (16,true))⟩,⟨(some 20),(.load false 1 (.tmp 19)),(some (16,true))⟩,⟨(some 21),(.mov (.tmp 0)),(some (16,true))⟩,⟨(some 22),(.bin .eql (.tmp 20) (.tmp 21)),(some (16,true))⟩,(oP 23 (.pick (.tmp 16) (.tmp 22) kF)),(mV 24 23),⟨(some 25),(.mov (.tmp 3)),(some (24,true))⟩,⟨(some 26),(.iaddr 4 (.tmp 25) (kI 0)),(some (24,true))⟩,⟨(some 27),(.faddr 1 (.tmp 26)),(some (24,true))⟩,⟨(some 28),(.load false 1 (.tmp 27)),(some (24,true))⟩,⟨(some 29),(.mov (.tmp 0)),(some (24,true))⟩,⟨(some 30),(.bin .eql (.tmp 28) (.tmp 29)),(some (24,true))⟩,(oP 31 (.pick (.tmp 24) (.tmp 30) kF)),(mV 2 31)]
 a35_c0)))⟩
theorem c35:compFunc Tryz.prog 35=some a35:=by kernel_rfl
def Zbv (r:Bool):AV→Heap→Nat→Prop:=fun v h' n' => v=(B r)∧(h' = e0)∧n' = 0
noncomputable def Z2y (v2:Bool):Option Bool :=
 some v2
theorem Z6e {mL:Int}{v2:Bool}{o:Bool}(h:Z2y v2=some o) :
  Sv Tryz.prog (GG mL) 0 a35_c0 (Ends a35.results 0 (Zbv o)) ⟨(upd e0 2 (some (B v2))),e0,0⟩:=by
 unfold Z2y at h
 refine Sv.ret ?_
 exact rt0 h rfl rfl ⟨rfl,rfl,rfl⟩
noncomputable def Z2z (s_:Tx):Option Bool :=
 (Z5a s_).bind fun r_ =>
 if decide ((r_.length:Int)=1) then
  (at? r_ 0).bind fun x_ =>
  if decide (x_.Kind=1) then
   (at? r_ 0).bind fun x_1 =>
   if decide (x_1.Value=s_) then
    (at? r_ 0).bind fun x_2 =>
    Z2y (decide (x_2.Raw=s_))
   else
    Z2y false
  else
   Z2y false
 else
  Z2y false
theorem Zgo {mL:Int}{s_:Tx}{r:Bool}(h:Z2z s_=some r):CPure Tryz.prog (GG mL) 35 [(S s_)] (B r):=by
 refine acalls_of_sv hmix c35 (R:=Zbv r) ?_
 unfold Z2z at h
 refine ssr<|un1 rfl<|dnil<|ssr<|un1 rfl ?_
 obtain ⟨r_,hr1,h⟩:=bnd h
 refine un<|ac_gen (bs:=[]) («as»:=[(S s_)]) (h2:=_) (h1:=e0) (Zgn hr1) rfl (.cons (avAs_free rfl) .nil) (hsub_refl _) (.nil _) (fun _=>rfl) (by decide) (by decide) (.cons (avAs_free rfl) .nil) .nil ?_
 rintro _ _ _ hn ⟨z_,hz_,rfl,rfl,rfl⟩
 refine ⟨.inl rfl,(upd (rem [] _) 0 (lstB z_ 4 (r_.map e_TSToken))),fun hbd=>(m3_cons (m3_row rfl (fr_map fun _=>rfl)) (m3_rem (in_nil _) (.cons (by decide) .nil) hbd)),(lstV z_ 0 4 r_.length),1,(by cases z_ <;> rfl),rfl,?_⟩
 refine un1 rfl<|dnil<|ssr<|un1 rfl<|un1 (v:=(I (r_.length:Int))) (s_lenL rfl (len_nil_of hz_))<|un1 (v:=(B (decide ((r_.length:Int)=1)))) rfl<|un1 rfl ?_
 refine spl h (fun h=>?_) fun h=>?_
 ·refine gt rfl<|a1 rfl ?_
  obtain ⟨x_,hx1,h⟩:=bnd h
  refine gt rfl<|a1 (v:=(.c (.ref 0 4 (0:Int).toNat 0))) (s_iaddrL rfl rfl hz_ hx1)<|gt rfl<|a1 (v:=(.c (.ref 0 4 (0:Int).toNat 0))) rfl<|gt rfl<|a1 (v:=(I x_.Kind)) (s_loadL (z:=z_) (e:=e_TSToken) rfl rfl hz_ hx1 rfl rfl)<|gt rfl<|a1 (v:=(B (decide (x_.Kind=1)))) rfl<|un1 (v:=(B (decide (x_.Kind=1)))) rfl<|un1 rfl ?_
  refine spl h (fun h=>?_) fun h=>?_
  ·refine gt rfl<|a1 rfl ?_
   obtain ⟨x_1,hx2,h⟩:=bnd h
   refine gt rfl<|a1 (v:=(.c (.ref 0 4 (0:Int).toNat 0))) (s_iaddrL rfl rfl hz_ hx2)<|gt rfl<|a1 (v:=(.c (.ref 0 4 (0:Int).toNat 2))) rfl<|gt rfl<|a1 (v:=(S x_1.Value)) (s_loadL (z:=z_) (e:=e_TSToken) rfl rfl hz_ hx2 rfl rfl)<|gt rfl<|a1 rfl<|gt rfl<|a1 (v:=(B (decide (x_1.Value=s_)))) rfl<|un1 (v:=(B (decide (x_1.Value=s_)))) rfl<|un1 rfl ?_
   refine spl h (fun h=>?_) fun h=>?_
   ·refine gt rfl<|a1 rfl ?_
    obtain ⟨x_2,hx3,h⟩:=bnd h
    refine gt rfl<|a1 (v:=(.c (.ref 0 4 (0:Int).toNat 0))) (s_iaddrL rfl rfl hz_ hx3)<|gt rfl<|a1 (v:=(.c (.ref 0 4 (0:Int).toNat 1))) rfl<|gt rfl<|a1 (v:=(S x_2.Raw)) (s_loadL (z:=z_) (e:=e_TSToken) rfl rfl hz_ hx3 rfl rfl)<|gt rfl<|a1 rfl<|gt rfl<|a1 (v:=(B (decide (x_2.Raw=s_)))) rfl<|un1 (v:=(B (decide (x_2.Raw=s_)))) rfl<|un1 rfl<|dnil ?_
    exact Sv.weak (wcn [] rfl (.cf rfl rfl .nil) .nil) (Z6e h)
   ·repeat (first | refine gu rfl ?_ | refine gs rfl rfl ?_)
    refine un1 (v:=(B false)) rfl<|un1 rfl<|dnil ?_
    exact Sv.weak (wcn [] rfl (.cf rfl rfl .nil) .nil) (Z6e h)
  ·repeat (first | refine gu rfl ?_ | refine gs rfl rfl ?_)
   refine un1 (v:=(B false)) rfl<|un1 rfl ?_
   repeat (first | refine gu rfl ?_ | refine gs rfl rfl ?_)
   refine un1 (v:=(B false)) rfl<|un1 rfl<|dnil ?_
   exact Sv.weak (wcn [] rfl (.cf rfl rfl .nil) .nil) (Z6e h)
 ·repeat (first | refine gu rfl ?_ | refine gs rfl rfl ?_)
  refine un1 (v:=(B false)) rfl<|un1 rfl ?_
  repeat (first | refine gu rfl ?_ | refine gs rfl rfl ?_)
  refine un1 (v:=(B false)) rfl<|un1 rfl ?_
  repeat (first | refine gu rfl ?_ | refine gs rfl rfl ?_)
  refine un1 (v:=(B false)) rfl<|un1 rfl<|dnil ?_
  exact Sv.weak (wcn [] rfl (.cf rfl rfl .nil) .nil) (Z6e h)
def Z5b (r:Bool):AV→Heap→Nat→Prop:=fun v h' n' => v=(B r)∧(h' = e0)∧n' = 0
def Z1y (mL:Int) (recf:(List Raw)→Option Bool):Prop:=∀(l_:(List Raw)) (r:Bool),recf l_=some r→CPure Tryz.prog (GG mL) 14 [(.c (.ro false 2 (l_.map eRaw)))] (B r)
def a23_c0:ACode:=(.cond (.tmp 60) (sr [(oP 4 (.mov kF))]
 .ret) .skip)
def a23_c1:ACode:=(.cond (.tmp 76) (sr [(oP 4 (.mov kF))]
 .ret) .skip)
def a23_c2:ACode:=(.cond (.tmp 100) (sr [(oP 4 (.mov kF))]
 .ret) .skip)
def a23_c3:ACode:=(sr [(oP 101 (.faddr 0 (.tmp 2))),(oP 102 (.load false 1 (.tmp 101))),(oP 103 (.bin .eql (.tmp 102) (kI 8))),(mV 104 103),⟨(some 105),(.faddr 0 (.tmp 2)),(some (104,false))⟩,⟨(some 106),(.load false 1 (.tmp 105)),(some (104,false))⟩,⟨(some 107),(.bin .eql (.tmp 106) (kI 9)),(some (104,false))⟩,(oP 108 (.pick (.tmp 104) kT (.tmp 107))),(mV 6 108)]
 (.seq (sr [(mV 109 6),(oP 110 (.un .not (.tmp 109))),(mV 111 110),⟨(some 112),(.faddr 4 (.tmp 2)),(some (111,true))⟩,⟨(some 113),(.load false 1 (.tmp 112)),(some (111,true))⟩,⟨(some 114),(.bin .neq (.tmp 113) (kI 0)),(some (111,true))⟩,⟨(some 115),(.mov (.tmp 114)),(some (111,true))⟩,⟨(some 116),(.faddr 5 (.tmp 2)),(some (115,false))⟩,⟨(some 117),(.load false 1 (.tmp 116)),(some (115,false))⟩,⟨(some 118),(.bin .neq (.tmp 117) (kI 0)),(some (115,false))⟩,⟨(some 119),(.pick (.tmp 115) kT (.tmp 118)),(some (111,true))⟩,(oP 120 (.pick (.tmp 111) (.tmp 119) kF)),(mV 121 120),⟨(some 122),(.faddr 4 (.tmp 2)),(some (121,false))⟩,⟨(some 123),(.load false 1 (.tmp 122)),(some (121,false))⟩,⟨(some 124),(.bin .lss (.tmp 123) (.const (.c (.val (.int .i64 (-1000)))))),(some (121,false))⟩,(oP 125 (.pick (.tmp 121) kT (.tmp 124))),(mV 126 125),⟨(some 127),(.faddr 4 (.tmp 2)),(some (126,false))⟩,⟨(some 128),(.load false 1 (.tmp 127)),(some (126,false))⟩,⟨(some 129),(.bin .gtr (.tmp 128) (kI 1000)),(some (126,false))⟩,(oP 130 (.pick (.tmp 126) kT (.tmp 129))),(mV 131 130),⟨(some 132),(.faddr 5 (.tmp 2)),(some (131,false))⟩,⟨(some 133),(.load false 1 (.tmp 132)),(some (131,false))⟩,⟨(some 134),(.bin .lss (.tmp 133) (.const (.c (.val (.int .i64 (-1000)))))),(some (131,false))⟩,(oP 135 (.pick (.tmp 131) kT (.tmp 134))),(mV 136 135),⟨(some 137),(.faddr 5 (.tmp 2)),(some (136,false))⟩,⟨(some 138),(.load false 1 (.tmp 137)),(some (136,false))⟩,⟨(some 139),(.bin .gtr (.tmp 138) (kI 1000)),(some (136,false))⟩,(oP 140 (.pick (.tmp 136) kT (.tmp 139)))]
 (.cond (.tmp 140) (sr [(oP 4 (.mov kF))]
 .ret) .skip))
 (.seq (sr [(oP 141 (.faddr 0 (.tmp 2))),(oP 142 (.load false 1 (.tmp 141))),(oP 143 (.bin .eql (.tmp 142) (kI 10))),(mV 144 143),⟨(some 145),(.faddr 0 (.tmp 2)),(some (144,false))⟩,⟨(some 146),(.load false 1 (.tmp 145)),(some (144,false))⟩,⟨(some 147),(.bin .eql (.tmp 146) (kI 11)),(some (144,false))⟩,(oP 148 (.pick (.tmp 144) kT (.tmp 147)))]
 (.cond (.tmp 148) (sr [(oP 149 (.faddr 6 (.tmp 2))),(oP 150 (.load false 1 (.tmp 149))),(oP 151 (.call 14 [(.tmp 150)])),(mV 4 151)]
 .ret) .skip))
 (sr [(oP 152 (.faddr 6 (.tmp 2))),(oP 153 (.load false 1 (.tmp 152))),(oP 154 (.len (.tmp 153))),(oP 155 (.bin .eql (.tmp 154) (kI 0))),(mV 4 155)]
 .ret))))
def a23_c4:ACode:=(.seq (sr [(oP 77 (.faddr 2 (.tmp 2))),(oP 78 (.load false 1 (.tmp 77))),(oP 79 (.bin .eql (.tmp 78) (.const (.c (.val (.int .u8 0)))))),(mV 80 79),⟨(some 81),(.faddr 3 (.tmp 2)),(some (80,true))⟩,⟨(some 82),(.load false 1 (.tmp 81)),(some (80,true))⟩,⟨(some 83),(.bin .neq (.tmp 82) (.const (.c (.str [])))),(some (80,true))⟩,(oP 84 (.pick (.tmp 80) (.tmp 83) kF)),(mV 85 84),⟨(some 86),(.faddr 2 (.tmp 2)),(some (85,false))⟩,⟨(some 87),(.load false 1 (.tmp 86)),(some (85,false))⟩,⟨(some 88),(.bin .neq (.tmp 87) (.const (.c (.val (.int .u8 0))))),(some (85,false))⟩,⟨(some 89),(.mov (.tmp 88)),(some (85,false))⟩,⟨(some 90),(.faddr 0 (.tmp 2)),(some (89,true))⟩,⟨(some 91),(.load false 1 (.tmp 90)),(some (89,true))⟩,⟨(some 92),(.bin .neq (.tmp 91) (kI 5)),(some (89,true))⟩,⟨(some 93),(.mov (.tmp 92)),(some (89,true))⟩,⟨(some 94),(.faddr 2 (.tmp 2)),(some (93,false))⟩,⟨(some 95),(.load false 1 (.tmp 94)),(some (93,false))⟩,⟨(some 96),(.call 22 [(.const (.c (.str [61,126,124,94,36,42]))),(.tmp 95)]),(some (93,false))⟩,⟨(some 97),(.un .not (.tmp 96)),(some (93,false))⟩,⟨(some 98),(.pick (.tmp 93) kT (.tmp 97)),(some (89,true))⟩,⟨(some 99),(.pick (.tmp 89) (.tmp 98) kF),(some (85,false))⟩,(oP 100 (.pick (.tmp 85) kT (.tmp 99)))]
 a23_c2)
 a23_c3)
def a23_c5:ACode:=(.seq (.seq (.drawn (.fin [((oP 61 (.faddr 0 (.tmp 2))),(0,0)),((oP 62 (.load false 1 (.tmp 61))),(0,1)),((oP 63 (.bin .eql (.tmp 62) (kI 2))),(0,2)),((mV 64 63),(0,3)),(⟨(some 65),(.faddr 0 (.tmp 2)),(some (64,false))⟩,(0,4)),(⟨(some 66),(.load false 1 (.tmp 65)),(some (64,false))⟩,(0,5)),(⟨(some 67),(.bin .eql (.tmp 66) (kI 5)),(some (64,false))⟩,(0,6)),((oP 68 (.pick (.tmp 64) kT (.tmp 67))),(0,7)),((mV 69 68),(0,8)),(⟨(some 70),(.faddr 1 (.tmp 2)),(some (69,true))⟩,(0,9)),(⟨(some 71),(.load false 1 (.tmp 70)),(some (69,true))⟩,(0,10)),(⟨(some 73),(.faddr 1 (.tmp 2)),(some (69,true))⟩,(0,12)),(⟨(some 74),(.load false 1 (.tmp 73)),(some (69,true))⟩,(0,13)),(⟨(some 72),(.call 36 [(.tmp 71)]),(some (69,true))⟩,(1,11)),(⟨(some 75),(.bin .neq (.tmp 72) (.tmp 74)),(some (69,true))⟩,(0,14)),((oP 76 (.pick (.tmp 69) (.tmp 75) kF)),(0,15))]))
 a23_c1)
 a23_c4)
def a23:AFunc:=⟨2,[(.tmp 4)],(sr [(oP 2 (.box (.tmp 0))),(oP 4 (.mov kF))]
 (.seq (sr [(oP 7 (.faddr 0 (.tmp 2))),(oP 8 (.load false 1 (.tmp 7))),(oP 9 (.bin .lss (.tmp 8) (kI 1))),(mV 10 9),⟨(some 11),(.faddr 0 (.tmp 2)),(some (10,false))⟩,⟨(some 12),(.load false 1 (.tmp 11)),(some (10,false))⟩,⟨(some 13),(.bin .gtr (.tmp 12) (kI 11)),(some (10,false))⟩,(oP 14 (.pick (.tmp 10) kT (.tmp 13)))]
 (.cond (.tmp 14) (sr [(oP 4 (.mov kF))]
 .ret) .skip))
 (.seq (sr [(mV 15 1),(oP 16 (.bin .gtr (.tmp 15) (kI 0))),(mV 17 16),⟨(some 18),(.faddr 0 (.tmp 2)),(some (17,true))⟩,⟨(some 19),(.load false 1 (.tmp 18)),(some (17,true))⟩,⟨(some 20),(.bin .eql (.tmp 19) (kI 1)),(some (17,true))⟩,⟨(some 21),(.mov (.tmp 20)),(some (17,true))⟩,⟨(some 22),(.faddr 0 (.tmp 2)),(some (21,false))⟩,⟨(some 23),(.load false 1 (.tmp 22)),(some (21,false))⟩,⟨(some 24),(.bin .eql (.tmp 23) (kI 2)),(some (21,false))⟩,⟨(some 25),(.pick (.tmp 21) kT (.tmp 24)),(some (17,true))⟩,(oP 26 (.pick (.tmp 17) (.tmp 25) kF))]
 (.cond (.tmp 26) (sr [(oP 4 (.mov kF))]
 .ret) .skip))
 (sr [(oP 27 (.faddr 0 (.tmp 2))),(oP 28 (.load false 1 (.tmp 27))),(oP 29 (.bin .eql (.tmp 28) (kI 2))),(mV 30 29),⟨(some 31),(.faddr 0 (.tmp 2)),(some (30,false))⟩,⟨(some 32),(.load false 1 (.tmp 31)),(some (30,false))⟩,⟨(some 33),(.bin .eql (.tmp 32) (kI 3)),(some (30,false))⟩,(oP 34 (.pick (.tmp 30) kT (.tmp 33))),(mV 35 34),⟨(some 36),(.faddr 0 (.tmp 2)),(some (35,false))⟩,⟨(some 37),(.load false 1 (.tmp 36)),(some (35,false))⟩,⟨(some 38),(.bin .eql (.tmp 37) (kI 4)),(some (35,false))⟩,(oP 39 (.pick (.tmp 35) kT (.tmp 38))),(mV 40 39),⟨(some 41),(.faddr 0 (.tmp 2)),(some (40,false))⟩,⟨(some 42),(.load false 1 (.tmp 41)),(some (40,false))⟩,⟨(some 43),(.bin .eql (.tmp 42) (kI 5)),(some (40,false))⟩,(oP 44 (.pick (.tmp 40) kT (.tmp 43))),(mV 5 44)]
 (.seq (sr [(mV 45 5),(oP 46 (.un .not (.tmp 45))),(mV 47 46),⟨(some 48),(.faddr 1 (.tmp 2)),(some (47,true))⟩,⟨(some 49),(.load false 1 (.tmp 48)),(some (47,true))⟩,⟨(some 50),(.bin .neq (.tmp 49) (.const (.c (.str [])))),(some (47,true))⟩,(oP 51 (.pick (.tmp 47) (.tmp 50) kF)),(mV 52 51),⟨(some 53),(.mov (.tmp 5)),(some (52,false))⟩,⟨(some 54),(.mov (.tmp 53)),(some (52,false))⟩,⟨(some 55),(.faddr 1 (.tmp 2)),(some (54,true))⟩,⟨(some 56),(.load false 1 (.tmp 55)),(some (54,true))⟩,⟨(some 57),(.call 35 [(.tmp 56)]),(some (54,true))⟩,⟨(some 58),(.un .not (.tmp 57)),(some (54,true))⟩,⟨(some 59),(.pick (.tmp 54) (.tmp 58) kF),(some (52,false))⟩,(oP 60 (.pick (.tmp 52) kT (.tmp 59)))]
 a23_c0)
 a23_c5)))))⟩
theorem c23:compFunc Tryz.prog 23=some a23:=by kernel_rfl
def Z30 (r:Bool):AV→Heap→Nat→Prop:=fun v h' n' => v=(B r)∧(h' = e0)∧n' = 0
abbrev Zgp (mL:Int) (o:Bool):AExit→St→Prop:=AThen (Sv Tryz.prog (GG mL) 0 a23_c3 (Ends a23.results 0 (Z30 o))) (Ends a23.results 0 (Z30 o))
noncomputable def Z2e (t_:TSTest) (rec_clerestoryref2_PathsMay:(List Raw)→Option Bool) (v100:Bool):Option Bool :=
 if v100 then
  some false
 else
  if ((((((!((decide (t_.Kind=8))||(decide (t_.Kind=9))))&&((!decide (t_.A=0))||(!decide (t_.B=0))))||(decide (t_.A<(-1000))))||(decide (1000<t_.A)))||(decide (t_.B<(-1000))))||(decide (1000<t_.B))) then
   some false
  else
   if ((decide (t_.Kind=10))||(decide (t_.Kind=11))) then
    (rec_clerestoryref2_PathsMay t_.Subs).bind fun r_ =>
    some r_
   else
    some (decide ((t_.Subs.length:Int)=0))
theorem Z6f {mL:Int}{t_:TSTest}{rec_clerestoryref2_PathsMay:(List Raw)→Option Bool}{v100:Bool}{o:Bool}(h:Z2e t_ rec_clerestoryref2_PathsMay v100=some o)
  (hrec_clerestoryref2_PathsMay:Z1y mL rec_clerestoryref2_PathsMay) :
  Sv Tryz.prog (GG mL) 0 a23_c2 (Zgp mL o) ⟨(ue [(100,(B v100)),(2,(.c (.ref 0 7 0 0)))]),(upd e0 0 (some (.cells 7 [(e_TSTest t_)]))),1⟩:=by
 unfold Z2e at h
 refine Sv.cnd rfl h (fun h=>?_) fun h=>?_
 ·refine ssr<|un1 rfl<|dnil<|Sv.ret ?_
  exact rt0 h rfl rfl ⟨rfl,rfl,rfl⟩
 ·refine Sv.skip<|ssr<|un1 (v:=(.c (.ref 0 7 0 0))) rfl<|un1 (v:=(I t_.Kind)) rfl<|un1 (v:=(B (decide (t_.Kind=8)))) rfl<|un1 rfl ?_
  refine gjoin 4 (d:=108) (v:=(B ((decide (t_.Kind=8))||(decide (t_.Kind=9))))) (fun X hX=>?_) ?_
  ·refine split2 (fun hc12=>?_) (fun hc12=>?_)
   ·refine gs rfl rfl<|gs rfl rfl<|gs rfl rfl<|un1 (v:=(B true)) rfl<|dnil ?_
    exact hX _ (.putEq (by rw [hc12]; rfl) (.skp (.skp (.skp (.putEq (by rw [hc12]) (.refl _)) rfl) rfl) rfl))
   ·refine gt rfl<|a1 (v:=(.c (.ref 0 7 0 0))) rfl<|gt rfl<|a1 (v:=(I t_.Kind)) rfl<|gt rfl<|a1 (v:=(B (decide (t_.Kind=9)))) rfl<|un1 (v:=(B (decide (t_.Kind=9)))) rfl<|dnil ?_
    exact hX _ (.putEq (by rw [hc12]; rfl) (.skp (.skp (.skp (.putEq (by rw [hc12]) (.refl _)) rfl) rfl) rfl))
  refine un1 rfl<|dnil<|Sv.seq<|ssr<|un1 rfl<|un1 (v:=(B (!((decide (t_.Kind=8))||(decide (t_.Kind=9)))))) rfl<|un1 rfl ?_
  refine gjoin 9 (d:=120) (v:=(B ((!((decide (t_.Kind=8))||(decide (t_.Kind=9))))&&((!decide (t_.A=0))||(!decide (t_.B=0)))))) (fun X hX=>?_) ?_
  ·refine split2 (fun hc14=>?_) (fun hc14=>?_)
   ·refine gt rfl<|a1 (v:=(.c (.ref 0 7 0 4))) rfl<|gt rfl<|a1 (v:=(I t_.A)) rfl<|gt rfl<|a1 (v:=(B (!decide (t_.A=0)))) rfl<|gt rfl<|a1 rfl ?_
    refine gjoin 4 (d:=119) (v:=(B ((!decide (t_.A=0))||(!decide (t_.B=0))))) (fun X hX=>?_) ?_
    ·refine split2 (fun hc13=>?_) (fun hc13=>?_)
     ·refine gs rfl rfl<|gs rfl rfl<|gs rfl rfl<|gt rfl<|a1 (v:=(B true)) rfl<|dnil ?_
      exact hX _ (.putEq (by rw [hc13]; rfl) (.skp (.skp (.skp (.putEq (by rw [hc13]) (.refl _)) rfl) rfl) rfl))
     ·refine gt rfl<|a1 (v:=(.c (.ref 0 7 0 5))) rfl<|gt rfl<|a1 (v:=(I t_.B)) rfl<|gt rfl<|a1 (v:=(B (!decide (t_.B=0)))) rfl<|gt rfl<|a1 (v:=(B (!decide (t_.B=0)))) rfl<|dnil ?_
      exact hX _ (.putEq (by rw [hc13]; rfl) (.skp (.skp (.skp (.putEq (by rw [hc13]) (.refl _)) rfl) rfl) rfl))
    refine un1 (v:=(B ((!decide (t_.A=0))||(!decide (t_.B=0))))) rfl<|dnil ?_
    exact hX _ (.putEq (by rw [hc14]; rfl) (by repeat (first | exact .putEq (by rw [hc14]) (.refl _) | refine .skp ?_ rfl)))
   ·repeat (first | refine gu rfl ?_ | refine gs rfl rfl ?_)
    refine un1 (v:=(B false)) rfl<|dnil ?_
    exact hX _ (.putEq (by rw [hc14]; rfl) (by repeat (first | exact .putEq (by rw [hc14]) (.refl _) | refine .skp ?_ rfl)))
  refine un1 rfl ?_
  refine gjoin 4 (d:=125) (v:=(B (((!((decide (t_.Kind=8))||(decide (t_.Kind=9))))&&((!decide (t_.A=0))||(!decide (t_.B=0))))||(decide (t_.A<(-1000)))))) (fun X hX=>?_) ?_
  ·refine split2 (fun hc15=>?_) (fun hc15=>?_)
   ·refine gs rfl rfl<|gs rfl rfl<|gs rfl rfl<|un1 (v:=(B true)) rfl<|dnil ?_
    exact hX _ (.putEq (by rw [hc15]; rfl) (.skp (.skp (.skp (.putEq (by rw [hc15]) (.refl _)) rfl) rfl) rfl))
   ·refine gt rfl<|a1 (v:=(.c (.ref 0 7 0 4))) rfl<|gt rfl<|a1 (v:=(I t_.A)) rfl<|gt rfl<|a1 (v:=(B (decide (t_.A<(-1000))))) rfl<|un1 (v:=(B (decide (t_.A<(-1000))))) rfl<|dnil ?_
    exact hX _ (.putEq (by rw [hc15]; rfl) (.skp (.skp (.skp (.putEq (by rw [hc15]) (.refl _)) rfl) rfl) rfl))
  refine un1 rfl ?_
  refine gjoin 4 (d:=130) (v:=(B ((((!((decide (t_.Kind=8))||(decide (t_.Kind=9))))&&((!decide (t_.A=0))||(!decide (t_.B=0))))||(decide (t_.A<(-1000))))||(decide (1000<t_.A))))) (fun X hX=>?_) ?_
  ·refine split2 (fun hc16=>?_) (fun hc16=>?_)
   ·refine gs rfl rfl<|gs rfl rfl<|gs rfl rfl<|un1 (v:=(B true)) rfl<|dnil ?_
    exact hX _ (.putEq (by rw [hc16]; rfl) (.skp (.skp (.skp (.putEq (by rw [hc16]) (.refl _)) rfl) rfl) rfl))
   ·refine gt rfl<|a1 (v:=(.c (.ref 0 7 0 4))) rfl<|gt rfl<|a1 (v:=(I t_.A)) rfl<|gt rfl<|a1 (v:=(B (decide (1000<t_.A)))) rfl<|un1 (v:=(B (decide (1000<t_.A)))) rfl<|dnil ?_
    exact hX _ (.putEq (by rw [hc16]; rfl) (.skp (.skp (.skp (.putEq (by rw [hc16]) (.refl _)) rfl) rfl) rfl))
  refine un1 rfl ?_
  refine gjoin 4 (d:=135) (v:=(B (((((!((decide (t_.Kind=8))||(decide (t_.Kind=9))))&&((!decide (t_.A=0))||(!decide (t_.B=0))))||(decide (t_.A<(-1000))))||(decide (1000<t_.A)))||(decide (t_.B<(-1000)))))) (fun X hX=>?_) ?_
  ·refine split2 (fun hc17=>?_) (fun hc17=>?_)
   ·refine gs rfl rfl<|gs rfl rfl<|gs rfl rfl<|un1 (v:=(B true)) rfl<|dnil ?_
    exact hX _ (.putEq (by rw [hc17]; rfl) (.skp (.skp (.skp (.putEq (by rw [hc17]) (.refl _)) rfl) rfl) rfl))
   ·refine gt rfl<|a1 (v:=(.c (.ref 0 7 0 5))) rfl<|gt rfl<|a1 (v:=(I t_.B)) rfl<|gt rfl<|a1 (v:=(B (decide (t_.B<(-1000))))) rfl<|un1 (v:=(B (decide (t_.B<(-1000))))) rfl<|dnil ?_
    exact hX _ (.putEq (by rw [hc17]; rfl) (.skp (.skp (.skp (.putEq (by rw [hc17]) (.refl _)) rfl) rfl) rfl))
  refine un1 rfl ?_
  refine gjoin 4 (d:=140) (v:=(B ((((((!((decide (t_.Kind=8))||(decide (t_.Kind=9))))&&((!decide (t_.A=0))||(!decide (t_.B=0))))||(decide (t_.A<(-1000))))||(decide (1000<t_.A)))||(decide (t_.B<(-1000))))||(decide (1000<t_.B))))) (fun X hX=>?_) ?_
  ·refine split2 (fun hc18=>?_) (fun hc18=>?_)
   ·refine gs rfl rfl<|gs rfl rfl<|gs rfl rfl<|un1 (v:=(B true)) rfl<|dnil ?_
    exact hX _ (.putEq (by rw [hc18]; rfl) (.skp (.skp (.skp (.putEq (by rw [hc18]) (.refl _)) rfl) rfl) rfl))
   ·refine gt rfl<|a1 (v:=(.c (.ref 0 7 0 5))) rfl<|gt rfl<|a1 (v:=(I t_.B)) rfl<|gt rfl<|a1 (v:=(B (decide (1000<t_.B)))) rfl<|un1 (v:=(B (decide (1000<t_.B)))) rfl<|dnil ?_
    exact hX _ (.putEq (by rw [hc18]; rfl) (.skp (.skp (.skp (.putEq (by rw [hc18]) (.refl _)) rfl) rfl) rfl))
  refine dnil ?_
  refine Sv.cnd rfl h (fun h=>?_) fun h=>?_
  ·refine ssr<|un1 rfl<|dnil<|Sv.ret ?_
   exact rt0 h rfl rfl ⟨rfl,rfl,rfl⟩
  ·refine Sv.skip<|Sv.seq<|ssr<|un1 (v:=(.c (.ref 0 7 0 0))) rfl<|un1 (v:=(I t_.Kind)) rfl<|un1 (v:=(B (decide (t_.Kind=10)))) rfl<|un1 rfl ?_
   refine gjoin 4 (d:=148) (v:=(B ((decide (t_.Kind=10))||(decide (t_.Kind=11))))) (fun X hX=>?_) ?_
   ·refine split2 (fun hc20=>?_) (fun hc20=>?_)
    ·refine gs rfl rfl<|gs rfl rfl<|gs rfl rfl<|un1 (v:=(B true)) rfl<|dnil ?_
     exact hX _ (.putEq (by rw [hc20]; rfl) (.skp (.skp (.skp (.putEq (by rw [hc20]) (.refl _)) rfl) rfl) rfl))
    ·refine gt rfl<|a1 (v:=(.c (.ref 0 7 0 0))) rfl<|gt rfl<|a1 (v:=(I t_.Kind)) rfl<|gt rfl<|a1 (v:=(B (decide (t_.Kind=11)))) rfl<|un1 (v:=(B (decide (t_.Kind=11)))) rfl<|dnil ?_
     exact hX _ (.putEq (by rw [hc20]; rfl) (.skp (.skp (.skp (.putEq (by rw [hc20]) (.refl _)) rfl) rfl) rfl))
   refine dnil ?_
   refine Sv.cnd rfl h (fun h=>?_) fun h=>?_
   ·refine ssr<|un1 (v:=(.c (.ref 0 7 0 6))) rfl<|un1 (v:=(.c (.ro false 2 (t_.Subs.map eRaw)))) rfl ?_
    obtain ⟨r_,hr1,h⟩:=bnd h
    refine un<|ac_pure (hrec_clerestoryref2_PathsMay t_.Subs _ hr1) rfl rfl rfl<|un1 rfl<|dnil<|Sv.ret ?_
    exact rt0 h rfl rfl ⟨rfl,rfl,rfl⟩
   ·refine Sv.skip<|ssr<|un1 (v:=(.c (.ref 0 7 0 6))) rfl<|un1 (v:=(.c (.ro false 2 (t_.Subs.map eRaw)))) rfl<|un1 (v:=(I (t_.Subs.length:Int))) (s_len (e:=eRaw) (xs:=t_.Subs) rfl)<|un1 (v:=(B (decide ((t_.Subs.length:Int)=0)))) rfl<|un1 rfl<|dnil<|Sv.ret ?_
    exact rt0 h rfl rfl ⟨rfl,rfl,rfl⟩
abbrev Zgq (mL:Int) (o:Bool):AExit→St→Prop:=AThen (Sv Tryz.prog (GG mL) 0 a23_c4 (Ends a23.results 0 (Z30 o))) (Ends a23.results 0 (Z30 o))
noncomputable def Z43 (t_:TSTest) (rec_clerestoryref2_PathsMay:(List Raw)→Option Bool) (v76:Bool):Option Bool :=
 if v76 then
  some false
 else
  if ((decide (t_.Op=0))&&(!decide (t_.Value=[]))) then
   Z2e t_ rec_clerestoryref2_PathsMay true
  else
   if (!decide (t_.Op=0)) then
    if (!decide (t_.Kind=5)) then
     Z2e t_ rec_clerestoryref2_PathsMay true
    else
     (Z1t [61,126,124,94,36,42] t_.Op).bind fun r_1 =>
     Z2e t_ rec_clerestoryref2_PathsMay (!r_1)
   else
    Z2e t_ rec_clerestoryref2_PathsMay false
theorem Zbw {mL:Int}{t_:TSTest}{rec_clerestoryref2_PathsMay:(List Raw)→Option Bool}{v76:Bool}{o:Bool}(h:Z43 t_ rec_clerestoryref2_PathsMay v76=some o)
  (hrec_clerestoryref2_PathsMay:Z1y mL rec_clerestoryref2_PathsMay) :
  Sv Tryz.prog (GG mL) 0 a23_c1 (Zgq mL o) ⟨(ue [(76,(B v76)),(2,(.c (.ref 0 7 0 0)))]),(upd e0 0 (some (.cells 7 [(e_TSTest t_)]))),1⟩:=by
 unfold Z43 at h
 refine Sv.cnd rfl h (fun h=>?_) fun h=>?_
 ·refine ssr<|un1 rfl<|dnil<|Sv.ret ?_
  exact rt0 h rfl rfl ⟨rfl,rfl,rfl⟩
 ·refine Sv.skip<|Sv.seq<|ssr<|un1 (v:=(.c (.ref 0 7 0 2))) rfl<|un1 (v:=(.c (.val (.int .u8 t_.Op)))) rfl<|un1 (v:=(B (decide (t_.Op=0)))) rfl<|un1 rfl ?_
  refine gjoin 4 (d:=84) (v:=(B ((decide (t_.Op=0))&&(!decide (t_.Value=[]))))) (fun X hX=>?_) ?_
  ·refine split2 (fun hc22=>?_) (fun hc22=>?_)
   ·refine gt rfl<|a1 (v:=(.c (.ref 0 7 0 3))) rfl<|gt rfl<|a1 (v:=(S t_.Value)) rfl<|gt rfl<|a1 (v:=(B (!decide (t_.Value=[])))) rfl<|un1 (v:=(B (!decide (t_.Value=[])))) rfl<|dnil ?_
    exact hX _ (.putEq (by rw [hc22]; rfl) (.skp (.skp (.skp (.putEq (by rw [hc22]) (.refl _)) rfl) rfl) rfl))
   ·refine gs rfl rfl<|gs rfl rfl<|gs rfl rfl<|un1 (v:=(B false)) rfl<|dnil ?_
    exact hX _ (.putEq (by rw [hc22]; rfl) (.skp (.skp (.skp (.putEq (by rw [hc22]) (.refl _)) rfl) rfl) rfl))
  refine un1 rfl ?_
  refine spl h (fun h=>?_) fun h=>?_
  ·repeat (first | refine gu rfl ?_ | refine gs rfl rfl ?_)
   refine un1 (v:=(B true)) rfl<|dnil ?_
   exact Sv.weak (wcn [0] rfl (.cf rfl rfl (.cr rfl rfl rfl .nil)) (.box (by decide) rfl (blkAs_cells (.sm rfl (.sm rfl (.sm rfl (.sm rfl (.sm rfl (.sm rfl (.sm rfl .nil)))))))) .nil)) (Z6f h hrec_clerestoryref2_PathsMay)
  ·refine gt rfl<|a1 (v:=(.c (.ref 0 7 0 2))) rfl<|gt rfl<|a1 (v:=(.c (.val (.int .u8 t_.Op)))) rfl<|gt rfl<|a1 (v:=(B (!decide (t_.Op=0)))) rfl<|gt rfl<|a1 rfl ?_
   refine spl h (fun h=>?_) fun h=>?_
   ·refine gt rfl<|a1 (v:=(.c (.ref 0 7 0 0))) rfl<|gt rfl<|a1 (v:=(I t_.Kind)) rfl<|gt rfl<|a1 (v:=(B (!decide (t_.Kind=5)))) rfl<|gt rfl<|a1 rfl ?_
    refine spl h (fun h=>?_) fun h=>?_
    ·refine gs rfl rfl<|gs rfl rfl<|gs rfl rfl<|gs rfl rfl<|gt rfl<|a1 (v:=(B true)) rfl<|gt rfl<|a1 (v:=(B true)) rfl<|un1 (v:=(B true)) rfl<|dnil ?_
     exact Sv.weak (wcn [0] rfl (.cf rfl rfl (.cr rfl rfl rfl .nil)) (.box (by decide) rfl (blkAs_cells (.sm rfl (.sm rfl (.sm rfl (.sm rfl (.sm rfl (.sm rfl (.sm rfl .nil)))))))) .nil)) (Z6f h hrec_clerestoryref2_PathsMay)
    ·refine gt rfl<|a1 (v:=(.c (.ref 0 7 0 2))) rfl<|gt rfl<|a1 (v:=(.c (.val (.int .u8 t_.Op)))) rfl ?_
     obtain ⟨r_1,hr2,h⟩:=bnd h
     refine gt rfl<|ac_pure (Zap hr2) rfl rfl rfl<|gt rfl<|a1 (v:=(B (!r_1))) rfl<|gt rfl<|a1 (v:=(B (!r_1))) rfl<|gt rfl<|a1 (v:=(B (!r_1))) rfl<|un1 (v:=(B (!r_1))) rfl<|dnil ?_
     exact Sv.weak (wcn [0] rfl (.cf rfl rfl (.cr rfl rfl rfl .nil)) (.box (by decide) rfl (blkAs_cells (.sm rfl (.sm rfl (.sm rfl (.sm rfl (.sm rfl (.sm rfl (.sm rfl .nil)))))))) .nil)) (Z6f h hrec_clerestoryref2_PathsMay)
   ·repeat (first | refine gu rfl ?_ | refine gs rfl rfl ?_)
    refine gt rfl<|a1 (v:=(B false)) rfl<|un1 (v:=(B false)) rfl<|dnil ?_
    exact Sv.weak (wcn [0] rfl (.cf rfl rfl (.cr rfl rfl rfl .nil)) (.box (by decide) rfl (blkAs_cells (.sm rfl (.sm rfl (.sm rfl (.sm rfl (.sm rfl (.sm rfl (.sm rfl .nil)))))))) .nil)) (Z6f h hrec_clerestoryref2_PathsMay)
abbrev Zgr (mL:Int) (o:Bool):AExit→St→Prop:=AThen (Sv Tryz.prog (GG mL) 0 a23_c5 (Ends a23.results 0 (Z30 o))) (Ends a23.results 0 (Z30 o))
noncomputable def Z2f (t_:TSTest) (rec_clerestoryref2_PathsMay:(List Raw)→Option Bool) (v60:Bool):Option Bool :=
 if v60 then
  some false
 else
  if ((decide (t_.Kind=2))||(decide (t_.Kind=5))) then
   (Z40 t_.Name).bind fun r_2 =>
   Z43 t_ rec_clerestoryref2_PathsMay (!decide (r_2=t_.Name))
  else
   Z43 t_ rec_clerestoryref2_PathsMay false
theorem Z84 {mL:Int}{t_:TSTest}{rec_clerestoryref2_PathsMay:(List Raw)→Option Bool}{v60:Bool}{o:Bool}(h:Z2f t_ rec_clerestoryref2_PathsMay v60=some o)
  (hrec_clerestoryref2_PathsMay:Z1y mL rec_clerestoryref2_PathsMay) :
  Sv Tryz.prog (GG mL) 0 a23_c0 (Zgr mL o) ⟨(ue [(60,(B v60)),(2,(.c (.ref 0 7 0 0)))]),(upd e0 0 (some (.cells 7 [(e_TSTest t_)]))),1⟩:=by
 unfold Z2f at h
 refine Sv.cnd rfl h (fun h=>?_) fun h=>?_
 ·refine ssr<|un1 rfl<|dnil<|Sv.ret ?_
  exact rt0 h rfl rfl ⟨rfl,rfl,rfl⟩
 ·refine Sv.skip<|Sv.seq<|Sv.seq<|Sv.drawn<|un1 (v:=(.c (.ref 0 7 0 0))) rfl<|un1 (v:=(I t_.Kind)) rfl<|un1 (v:=(B (decide (t_.Kind=2)))) rfl<|un1 rfl ?_
  refine gjoin 4 (d:=68) (v:=(B ((decide (t_.Kind=2))||(decide (t_.Kind=5))))) (fun X hX=>?_) ?_
  ·refine split2 (fun hc26=>?_) (fun hc26=>?_)
   ·refine gs rfl rfl<|gs rfl rfl<|gs rfl rfl<|un1 (v:=(B true)) rfl<|dnil ?_
    exact hX _ (.putEq (by rw [hc26]; rfl) (.skp (.skp (.skp (.putEq (by rw [hc26]) (.refl _)) rfl) rfl) rfl))
   ·refine gt rfl<|a1 (v:=(.c (.ref 0 7 0 0))) rfl<|gt rfl<|a1 (v:=(I t_.Kind)) rfl<|gt rfl<|a1 (v:=(B (decide (t_.Kind=5)))) rfl<|un1 (v:=(B (decide (t_.Kind=5)))) rfl<|dnil ?_
    exact hX _ (.putEq (by rw [hc26]; rfl) (.skp (.skp (.skp (.putEq (by rw [hc26]) (.refl _)) rfl) rfl) rfl))
  refine un1 rfl ?_
  refine spl h (fun h=>?_) fun h=>?_
  ·refine gt rfl<|a1 (v:=(.c (.ref 0 7 0 1))) rfl<|gt rfl<|a1 (v:=(S t_.Name)) rfl<|gt rfl<|a1 (v:=(.c (.ref 0 7 0 1))) rfl<|gt rfl<|a1 (v:=(S t_.Name)) rfl ?_
   obtain ⟨r_2,hr3,h⟩:=bnd h
   refine gt rfl<|ac_pure (Zbj hr3) rfl rfl rfl<|gt rfl<|a1 (v:=(B (!decide (r_2=t_.Name)))) rfl<|un1 (v:=(B (!decide (r_2=t_.Name)))) rfl<|dnil ?_
   exact Sv.weak (wcn [0] rfl (.cf rfl rfl (.cr rfl rfl rfl .nil)) (.box (by decide) rfl (blkAs_cells (.sm rfl (.sm rfl (.sm rfl (.sm rfl (.sm rfl (.sm rfl (.sm rfl .nil)))))))) .nil)) (Zbw h hrec_clerestoryref2_PathsMay)
  ·repeat (first | refine gu rfl ?_ | refine gs rfl rfl ?_)
   refine un1 (v:=(B false)) rfl<|dnil ?_
   exact Sv.weak (wcn [0] rfl (.cf rfl rfl (.cr rfl rfl rfl .nil)) (.box (by decide) rfl (blkAs_cells (.sm rfl (.sm rfl (.sm rfl (.sm rfl (.sm rfl (.sm rfl (.sm rfl .nil)))))))) .nil)) (Zbw h hrec_clerestoryref2_PathsMay)
noncomputable def Z1z (rec_clerestoryref2_PathsMay:(List Raw)→Option Bool) (t_:TSTest) (at_:Int):Option Bool :=
 if ((decide (t_.Kind<1))||(decide (11<t_.Kind))) then
  some false
 else
  if ((decide (0<at_))&&((decide (t_.Kind=1))||(decide (t_.Kind=2)))) then
   some false
  else
   letIn (!((((decide (t_.Kind=2))||(decide (t_.Kind=3)))||(decide (t_.Kind=4)))||(decide (t_.Kind=5)))) fun v46:Bool =>
   if (v46&&(!decide (t_.Name=[]))) then
    Z2f t_ rec_clerestoryref2_PathsMay true
   else
    if ((((decide (t_.Kind=2))||(decide (t_.Kind=3)))||(decide (t_.Kind=4)))||(decide (t_.Kind=5))) then
     (Z2z t_.Name).bind fun r_3 =>
     Z2f t_ rec_clerestoryref2_PathsMay (!r_3)
    else
     Z2f t_ rec_clerestoryref2_PathsMay false
theorem Zgs {mL:Int}{rec_clerestoryref2_PathsMay:(List Raw)→Option Bool}(hrec_clerestoryref2_PathsMay:Z1y mL rec_clerestoryref2_PathsMay) {t_:TSTest}{at_:Int}{r:Bool}(h:Z1z rec_clerestoryref2_PathsMay t_ at_=some r):CPure Tryz.prog (GG mL) 23 [(.agg (e_TSTest t_)),(I at_)] (B r):=by
 refine acalls_of_sv hmix c23 (R:=Z30 r) ?_
 unfold Z1z at h
 refine ssr<|un<|a2v (v:=(.c (.ref 0 7 0 0))) (h' := upd _ 0 (some (.cells 7 [(e_TSTest t_)]))) (n' := 1) rfl rfl hcs<|un1 rfl<|dnil<|Sv.seq<|ssr<|un1 (v:=(.c (.ref 0 7 0 0))) rfl<|un1 (v:=(I t_.Kind)) rfl<|un1 (v:=(B (decide (t_.Kind<1)))) rfl<|un1 rfl ?_
 refine gjoin 4 (d:=14) (v:=(B ((decide (t_.Kind<1))||(decide (11<t_.Kind))))) (fun X hX=>?_) ?_
 ·refine split2 (fun hc1=>?_) (fun hc1=>?_)
  ·refine gs rfl rfl<|gs rfl rfl<|gs rfl rfl<|un1 (v:=(B true)) rfl<|dnil ?_
   exact hX _ (.putEq (by rw [hc1]; rfl) (.skp (.skp (.skp (.putEq (by rw [hc1]) (.refl _)) rfl) rfl) rfl))
  ·refine gt rfl<|a1 (v:=(.c (.ref 0 7 0 0))) rfl<|gt rfl<|a1 (v:=(I t_.Kind)) rfl<|gt rfl<|a1 (v:=(B (decide (11<t_.Kind)))) rfl<|un1 (v:=(B (decide (11<t_.Kind)))) rfl<|dnil ?_
   exact hX _ (.putEq (by rw [hc1]; rfl) (.skp (.skp (.skp (.putEq (by rw [hc1]) (.refl _)) rfl) rfl) rfl))
 refine dnil ?_
 refine Sv.cnd rfl h (fun h=>?_) fun h=>?_
 ·refine ssr<|un1 rfl<|dnil<|Sv.ret ?_
  exact rt0 h rfl rfl ⟨rfl,rfl,rfl⟩
 ·refine Sv.skip<|Sv.seq<|ssr<|un1 rfl<|un1 (v:=(B (decide (0<at_)))) rfl<|un1 rfl ?_
  refine gjoin 9 (d:=26) (v:=(B ((decide (0<at_))&&((decide (t_.Kind=1))||(decide (t_.Kind=2)))))) (fun X hX=>?_) ?_
  ·refine split2 (fun hc4=>?_) (fun hc4=>?_)
   ·refine gt rfl<|a1 (v:=(.c (.ref 0 7 0 0))) rfl<|gt rfl<|a1 (v:=(I t_.Kind)) rfl<|gt rfl<|a1 (v:=(B (decide (t_.Kind=1)))) rfl<|gt rfl<|a1 rfl ?_
    refine gjoin 4 (d:=25) (v:=(B ((decide (t_.Kind=1))||(decide (t_.Kind=2))))) (fun X hX=>?_) ?_
    ·refine split2 (fun hc3=>?_) (fun hc3=>?_)
     ·refine gs rfl rfl<|gs rfl rfl<|gs rfl rfl<|gt rfl<|a1 (v:=(B true)) rfl<|dnil ?_
      exact hX _ (.putEq (by rw [hc3]; rfl) (.skp (.skp (.skp (.putEq (by rw [hc3]) (.refl _)) rfl) rfl) rfl))
     ·refine gt rfl<|a1 (v:=(.c (.ref 0 7 0 0))) rfl<|gt rfl<|a1 (v:=(I t_.Kind)) rfl<|gt rfl<|a1 (v:=(B (decide (t_.Kind=2)))) rfl<|gt rfl<|a1 (v:=(B (decide (t_.Kind=2)))) rfl<|dnil ?_
      exact hX _ (.putEq (by rw [hc3]; rfl) (.skp (.skp (.skp (.putEq (by rw [hc3]) (.refl _)) rfl) rfl) rfl))
    refine un1 (v:=(B ((decide (t_.Kind=1))||(decide (t_.Kind=2))))) rfl<|dnil ?_
    exact hX _ (.putEq (by rw [hc4]; rfl) (by repeat (first | exact .putEq (by rw [hc4]) (.refl _) | refine .skp ?_ rfl)))
   ·repeat (first | refine gu rfl ?_ | refine gs rfl rfl ?_)
    refine un1 (v:=(B false)) rfl<|dnil ?_
    exact hX _ (.putEq (by rw [hc4]; rfl) (by repeat (first | exact .putEq (by rw [hc4]) (.refl _) | refine .skp ?_ rfl)))
  refine dnil ?_
  refine Sv.cnd rfl h (fun h=>?_) fun h=>?_
  ·refine ssr<|un1 rfl<|dnil<|Sv.ret ?_
   exact rt0 h rfl rfl ⟨rfl,rfl,rfl⟩
  ·refine Sv.skip<|ssr<|un1 (v:=(.c (.ref 0 7 0 0))) rfl<|un1 (v:=(I t_.Kind)) rfl<|un1 (v:=(B (decide (t_.Kind=2)))) rfl<|un1 rfl ?_
   refine gjoin 4 (d:=34) (v:=(B ((decide (t_.Kind=2))||(decide (t_.Kind=3))))) (fun X hX=>?_) ?_
   ·refine split2 (fun hc6=>?_) (fun hc6=>?_)
    ·refine gs rfl rfl<|gs rfl rfl<|gs rfl rfl<|un1 (v:=(B true)) rfl<|dnil ?_
     exact hX _ (.putEq (by rw [hc6]; rfl) (.skp (.skp (.skp (.putEq (by rw [hc6]) (.refl _)) rfl) rfl) rfl))
    ·refine gt rfl<|a1 (v:=(.c (.ref 0 7 0 0))) rfl<|gt rfl<|a1 (v:=(I t_.Kind)) rfl<|gt rfl<|a1 (v:=(B (decide (t_.Kind=3)))) rfl<|un1 (v:=(B (decide (t_.Kind=3)))) rfl<|dnil ?_
     exact hX _ (.putEq (by rw [hc6]; rfl) (.skp (.skp (.skp (.putEq (by rw [hc6]) (.refl _)) rfl) rfl) rfl))
   refine un1 rfl ?_
   refine gjoin 4 (d:=39) (v:=(B (((decide (t_.Kind=2))||(decide (t_.Kind=3)))||(decide (t_.Kind=4))))) (fun X hX=>?_) ?_
   ·refine split2 (fun hc7=>?_) (fun hc7=>?_)
    ·refine gs rfl rfl<|gs rfl rfl<|gs rfl rfl<|un1 (v:=(B true)) rfl<|dnil ?_
     exact hX _ (.putEq (by rw [hc7]; rfl) (.skp (.skp (.skp (.putEq (by rw [hc7]) (.refl _)) rfl) rfl) rfl))
    ·refine gt rfl<|a1 (v:=(.c (.ref 0 7 0 0))) rfl<|gt rfl<|a1 (v:=(I t_.Kind)) rfl<|gt rfl<|a1 (v:=(B (decide (t_.Kind=4)))) rfl<|un1 (v:=(B (decide (t_.Kind=4)))) rfl<|dnil ?_
     exact hX _ (.putEq (by rw [hc7]; rfl) (.skp (.skp (.skp (.putEq (by rw [hc7]) (.refl _)) rfl) rfl) rfl))
   refine un1 rfl ?_
   refine gjoin 4 (d:=44) (v:=(B ((((decide (t_.Kind=2))||(decide (t_.Kind=3)))||(decide (t_.Kind=4)))||(decide (t_.Kind=5))))) (fun X hX=>?_) ?_
   ·refine split2 (fun hc8=>?_) (fun hc8=>?_)
    ·refine gs rfl rfl<|gs rfl rfl<|gs rfl rfl<|un1 (v:=(B true)) rfl<|dnil ?_
     exact hX _ (.putEq (by rw [hc8]; rfl) (.skp (.skp (.skp (.putEq (by rw [hc8]) (.refl _)) rfl) rfl) rfl))
    ·refine gt rfl<|a1 (v:=(.c (.ref 0 7 0 0))) rfl<|gt rfl<|a1 (v:=(I t_.Kind)) rfl<|gt rfl<|a1 (v:=(B (decide (t_.Kind=5)))) rfl<|un1 (v:=(B (decide (t_.Kind=5)))) rfl<|dnil ?_
     exact hX _ (.putEq (by rw [hc8]; rfl) (.skp (.skp (.skp (.putEq (by rw [hc8]) (.refl _)) rfl) rfl) rfl))
   refine un1 rfl<|dnil<|Sv.seq<|ssr<|un1 rfl ?_
   obtain ⟨v46,hv46⟩:∃ v46:Bool,v46=(!((((decide (t_.Kind=2))||(decide (t_.Kind=3)))||(decide (t_.Kind=4)))||(decide (t_.Kind=5)))):=⟨_,rfl⟩
   replace h:=letAt hv46 h
   refine un1 (v:=(B v46)) (by rw [hv46]; rfl) ?_
   clear hv46
   refine un1 rfl ?_
   refine gjoin 4 (d:=51) (v:=(B (v46&&(!decide (t_.Name=[]))))) (fun X hX=>?_) ?_
   ·refine split2 (fun hc28=>?_) (fun hc28=>?_)
    ·refine gt rfl<|a1 (v:=(.c (.ref 0 7 0 1))) rfl<|gt rfl<|a1 (v:=(S t_.Name)) rfl<|gt rfl<|a1 (v:=(B (!decide (t_.Name=[])))) rfl<|un1 (v:=(B (!decide (t_.Name=[])))) rfl<|dnil ?_
     exact hX _ (.putEq (by rw [hc28]; rfl) (.skp (.skp (.skp (.putEq (by rw [hc28]) (.refl _)) rfl) rfl) rfl))
    ·refine gs rfl rfl<|gs rfl rfl<|gs rfl rfl<|un1 (v:=(B false)) rfl<|dnil ?_
     exact hX _ (.putEq (by rw [hc28]; rfl) (.skp (.skp (.skp (.putEq (by rw [hc28]) (.refl _)) rfl) rfl) rfl))
   refine un1 rfl ?_
   refine spl h (fun h=>?_) fun h=>?_
   ·repeat (first | refine gu rfl ?_ | refine gs rfl rfl ?_)
    refine un1 (v:=(B true)) rfl<|dnil ?_
    exact Sv.weak (wcn [0] rfl (.cf rfl rfl (.cr rfl rfl rfl .nil)) (.box (by decide) rfl (blkAs_cells (.sm rfl (.sm rfl (.sm rfl (.sm rfl (.sm rfl (.sm rfl (.sm rfl .nil)))))))) .nil)) (Z84 h hrec_clerestoryref2_PathsMay)
   ·refine gt rfl<|a1 rfl<|gt rfl<|a1 rfl ?_
    refine spl h (fun h=>?_) fun h=>?_
    ·refine gt rfl<|a1 (v:=(.c (.ref 0 7 0 1))) rfl<|gt rfl<|a1 (v:=(S t_.Name)) rfl ?_
     obtain ⟨r_3,hr4,h⟩:=bnd h
     refine gt rfl<|ac_pure (Zgo hr4) rfl rfl rfl<|gt rfl<|a1 (v:=(B (!r_3))) rfl<|gt rfl<|a1 (v:=(B (!r_3))) rfl<|un1 (v:=(B (!r_3))) rfl<|dnil ?_
     exact Sv.weak (wcn [0] rfl (.cf rfl rfl (.cr rfl rfl rfl .nil)) (.box (by decide) rfl (blkAs_cells (.sm rfl (.sm rfl (.sm rfl (.sm rfl (.sm rfl (.sm rfl (.sm rfl .nil)))))))) .nil)) (Z84 h hrec_clerestoryref2_PathsMay)
    ·refine gs rfl rfl<|gs rfl rfl<|gs rfl rfl<|gs rfl rfl<|gt rfl<|a1 (v:=(B false)) rfl<|un1 (v:=(B false)) rfl<|dnil ?_
     exact Sv.weak (wcn [0] rfl (.cf rfl rfl (.cr rfl rfl rfl .nil)) (.box (by decide) rfl (blkAs_cells (.sm rfl (.sm rfl (.sm rfl (.sm rfl (.sm rfl (.sm rfl (.sm rfl .nil)))))))) .nil)) (Z84 h hrec_clerestoryref2_PathsMay)
def a14_c0:ACode:=(.cond (.tmp 58) (sr [(oP 2 (.mov kF))]
 .ret) .skip)
def a14_c1:ACode:=(.seq (sr [(mV 59 6),(oP 60 (.faddr 0 (.tmp 4))),(oP 61 (.load false 1 (.tmp 60))),(mV 62 5),(oP 63 (.iaddr 1 (.tmp 61) (.tmp 62))),(oP 64 (.load false 1 (.tmp 63))),(oP 65 (.len (.tmp 64))),(oP 66 (.bin .lss (.tmp 59) (.tmp 65)))]
 (.cond (.tmp 66) .skip (.exit 4)))
 (.seq (.block 5 (sr [(oP 69 (.faddr 0 (.tmp 4))),(oP 70 (.load false 1 (.tmp 69))),(mV 71 5),(oP 72 (.iaddr 1 (.tmp 70) (.tmp 71))),(oP 73 (.load false 1 (.tmp 72))),(mV 74 6),(oP 75 (.iaddr 7 (.tmp 73) (.tmp 74))),(oP 76 (.load true 7 (.tmp 75))),(mV 77 6),(oP 78 (.call 23 [(.tmp 76),(.tmp 77)])),(oP 79 (.un .not (.tmp 78)))]
 (.cond (.tmp 79) (sr [(oP 2 (.mov kF))]
 .ret) .skip)))
 (.region [(mV 67 6),(oP 68 (.bin .add (.tmp 67) (kI 1))),(mV 6 68)])))
def a14_c3:ACode:=(sr [(oP 6 (.mov (kI 0)))]
 (.block 4 (.loop a14_c1)))
def a14_c2:ACode:=(.region [(mV 36 5),(oP 37 (.bin .add (.tmp 36) (kI 1))),(mV 5 37)])
def a14_c4:ACode:=(.seq (sr [(mV 31 5),(oP 32 (.faddr 0 (.tmp 4))),(oP 33 (.load false 1 (.tmp 32))),(oP 34 (.len (.tmp 33))),(oP 35 (.bin .lss (.tmp 31) (.tmp 34)))]
 (.cond (.tmp 35) .skip (.exit 2)))
 (.seq (.block 3 (.seq (sr [(oP 38 (.faddr 0 (.tmp 4))),(oP 39 (.load false 1 (.tmp 38))),(mV 40 5),(oP 41 (.iaddr 1 (.tmp 39) (.tmp 40))),(oP 42 (.load false 1 (.tmp 41))),(oP 43 (.len (.tmp 42))),(oP 44 (.bin .eql (.tmp 43) (kI 0))),(mV 45 44),⟨(some 46),(.mov (.tmp 5)),(some (45,false))⟩,⟨(some 47),(.bin .gtr (.tmp 46) (kI 0)),(some (45,false))⟩,⟨(some 48),(.mov (.tmp 47)),(some (45,false))⟩,⟨(some 49),(.faddr 1 (.tmp 4)),(some (48,true))⟩,⟨(some 50),(.load false 1 (.tmp 49)),(some (48,true))⟩,⟨(some 51),(.mov (.tmp 5)),(some (48,true))⟩,⟨(some 52),(.bin .sub (.tmp 51) (kI 1)),(some (48,true))⟩,⟨(some 53),(.iaddr 1 (.tmp 50) (.tmp 52)),(some (48,true))⟩,⟨(some 54),(.load false 1 (.tmp 53)),(some (48,true))⟩,⟨(some 55),(.call 22 [(.const (.c (.str [32,62,43,126]))),(.tmp 54)]),(some (48,true))⟩,⟨(some 56),(.un .not (.tmp 55)),(some (48,true))⟩,⟨(some 57),(.pick (.tmp 48) (.tmp 56) kF),(some (45,false))⟩,(oP 58 (.pick (.tmp 45) kT (.tmp 57)))]
 a14_c0)
 a14_c3))
 a14_c2))
def a14_c5:ACode:=(.seq (sr [(mV 7 3),(mV 8 0),(oP 9 (.len (.tmp 8))),(oP 10 (.bin .lss (.tmp 7) (.tmp 9)))]
 (.cond (.tmp 10) .skip (.exit 0)))
 (.seq (.block 1 (sr [(mV 13 0),(mV 14 3),(oP 15 (.iaddr 2 (.tmp 13) (.tmp 14))),(oP 16 (.load true 2 (.tmp 15))),(oP 4 (.box (.const (.agg [(.ro true 1 []),(.ro true 1 [])])))),(oN (.store 2 (.tmp 4) (.tmp 16)))]
 (.seq (sr [(oP 17 (.faddr 0 (.tmp 4))),(oP 18 (.load false 1 (.tmp 17))),(oP 19 (.len (.tmp 18))),(oP 20 (.bin .eql (.tmp 19) (kI 0))),(mV 21 20),⟨(some 22),(.faddr 1 (.tmp 4)),(some (21,false))⟩,⟨(some 23),(.load false 1 (.tmp 22)),(some (21,false))⟩,⟨(some 24),(.len (.tmp 23)),(some (21,false))⟩,⟨(some 25),(.faddr 0 (.tmp 4)),(some (21,false))⟩,⟨(some 26),(.load false 1 (.tmp 25)),(some (21,false))⟩,⟨(some 27),(.len (.tmp 26)),(some (21,false))⟩,⟨(some 28),(.bin .sub (.tmp 27) (kI 1)),(some (21,false))⟩,⟨(some 29),(.bin .neq (.tmp 24) (.tmp 28)),(some (21,false))⟩,(oP 30 (.pick (.tmp 21) kT (.tmp 29)))]
 (.cond (.tmp 30) (sr [(oP 2 (.mov kF))]
 .ret) .skip))
 (sr [(oP 5 (.mov (kI 0)))]
 (.block 2 (.loop a14_c4))))))
 (.region [(mV 11 3),(oP 12 (.bin .add (.tmp 11) (kI 1))),(mV 3 12)])))
def a14:AFunc:=⟨1,[(.tmp 2)],(sr [(oP 2 (.mov kF))]
 (.seq (sr [(oP 3 (.mov (kI 0)))]
 (.block 0 (.loop a14_c5)))
 (sr [(mV 80 0),(oP 81 (.len (.tmp 80))),(oP 82 (.bin .gtr (.tmp 81) (kI 0))),(mV 2 82)]
 .ret)))⟩
theorem c14:compFunc Tryz.prog 14=some a14:=by kernel_rfl
abbrev Zgt (l_:(List Raw)) (i_:Int) (k_:Int) (x_:TSPath) (F_:Unit→Option Bool) (o:Bool) (R_:St→Prop):Prop:=∀(_:Unit),F_ ()=some o→∀ s,Weak 0 s ⟨(ue [(5,(I k_)),(4,(.c (.ref 0 2 0 0))),(3,(I i_)),(0,(.c (.ro false 2 (l_.map eRaw))))]),(upd e0 0 (some (.cells 2 [(e_TSPath x_)]))),1⟩→R_ s
abbrev Zbx (l_:(List Raw)) (i_:Int) (k_:Int) (x_:TSPath) (F_:Nat→Int→Option Bool) (o:Bool):Nat→St→Prop:=fun k s=>∃(m_:Int),F_ k m_=some o∧s=⟨(ue [(6,(I m_)),(5,(I k_)),(4,(.c (.ref 0 2 0 0))),(3,(I i_)),(0,(.c (.ro false 2 (l_.map eRaw))))]),(upd e0 0 (some (.cells 2 [(e_TSPath x_)]))),1⟩
abbrev Zgu (l_:(List Raw)) (i_:Int) (k_:Int) (x_:TSPath) (F_:Int→Option Bool) (o:Bool) (R_:St→Prop):Prop:=∀(m_:Int),F_ m_=some o→∀ s,Weak 0 s ⟨(ue [(6,(I m_)),(5,(I k_)),(4,(.c (.ref 0 2 0 0))),(3,(I i_)),(0,(.c (.ro false 2 (l_.map eRaw))))]),(upd e0 0 (some (.cells 2 [(e_TSPath x_)]))),1⟩→R_ s
noncomputable def Ze (x_:TSPath) (k_:Int) (recf:(List Raw)→Option Bool) (l_:(List Raw)) (i_:Int) (K4_:Unit→Option Bool):Nat→Int→Option Bool
 | 0,_=>none
 | k+1,m_ =>
  (at? x_.Steps k_).bind fun x_1 =>
  if decide (m_<(x_1.length:Int)) then
   (at? x_.Steps k_).bind fun x_2 =>
   (at? x_2 m_).bind fun x_3 =>
   (Z1z recf x_3 m_).bind fun r_1 =>
   if (!r_1) then
    some false
   else
    (Ze x_ k_ recf l_ i_ K4_ k) (wi (m_+1))
  else
   K4_ ()
theorem Zgv {mL:Int}{Q:AExit→St→Prop}{x_:TSPath}{k_:Int}{recf:(List Raw)→Option Bool}{l_:(List Raw)}{i_:Int}{K4_:Unit→Option Bool}{k:Nat}{m_:Int}{o:Bool}(h:Ze x_ k_ recf l_ i_ K4_ k m_=some o)
  (hK4:Zgt l_ i_ k_ x_ K4_ o (Q (.exit 4)))
  (hr:∀ s,Ends a14.results 0 (Z5b o) .ret s→Q .ret s)
  (hrec:Z1y mL recf) :
  Sv Tryz.prog (GG mL) 0 (.loop a14_c1) Q ⟨(ue [(6,(I m_)),(5,(I k_)),(4,(.c (.ref 0 2 0 0))),(3,(I i_)),(0,(.c (.ro false 2 (l_.map eRaw))))]),(upd e0 0 (some (.cells 2 [(e_TSPath x_)]))),1⟩:=by
 refine Sv.loop (I:=Zbx l_ i_ k_ x_ (Ze x_ k_ recf l_ i_ K4_) o) (fun k s hI=>?_) ⟨m_,h,rfl⟩
 clear h
 clear m_
 obtain ⟨m_,h,rfl⟩:=hI
 cases k with
 | zero=>cases h
 | succ k =>
 rw [Ze] at h
 have hself:Zgu l_ i_ k_ x_ (Ze x_ k_ recf l_ i_ K4_ k) o (rnd 0 (Zbx l_ i_ k_ x_ (Ze x_ k_ recf l_ i_ K4_) o) k Q):=fun m_ h s hw=>⟨_,k,hw,Nat.lt_succ_self k,m_,h,rfl⟩
 refine Sv.seq<|ssr<|un1 rfl<|un1 (v:=(.c (.ref 0 2 0 0))) rfl<|un1 (v:=(.c (.ro false 1 (x_.Steps.map (eSl 7 e_TSTest))))) rfl<|un1 rfl ?_
 obtain ⟨x_1,hx2,h⟩:=bnd h
 refine un1 (v:=(.c (.rop [.ro false 7 (x_1.map e_TSTest)]))) (s_iaddr (e:=(eSl 7 e_TSTest)) (xs:=x_.Steps) rfl rfl hx2)<|un1 (v:=(.c (.ro false 7 (x_1.map e_TSTest)))) rfl<|un1 (v:=(I (x_1.length:Int))) (s_len (e:=e_TSTest) (xs:=x_1) rfl)<|un1 (v:=(B (decide (m_<(x_1.length:Int))))) rfl<|dnil ?_
 refine Sv.cnd rfl h (fun h=>?_) fun h=>?_
 ·refine Sv.skip<|Sv.seq<|Sv.block<|ssr<|un1 (v:=(.c (.ref 0 2 0 0))) rfl<|un1 (v:=(.c (.ro false 1 (x_.Steps.map (eSl 7 e_TSTest))))) rfl<|un1 rfl ?_
  obtain ⟨x_2,hx3,h⟩:=bnd h
  refine un1 (v:=(.c (.rop [.ro false 7 (x_2.map e_TSTest)]))) (s_iaddr (e:=(eSl 7 e_TSTest)) (xs:=x_.Steps) rfl rfl hx3)<|un1 (v:=(.c (.ro false 7 (x_2.map e_TSTest)))) rfl<|un1 rfl ?_
  obtain ⟨x_3,hx4,h⟩:=bnd h
  refine un1 (v:=(.c (.rop (e_TSTest x_3)))) (s_iaddr (e:=e_TSTest) (xs:=x_2) rfl rfl hx4)<|un1 (v:=(.agg (e_TSTest x_3))) rfl<|un1 rfl ?_
  obtain ⟨r_1,hr2,h⟩:=bnd h
  refine un<|ac_pure (Zgs hrec hr2) rfl rfl rfl<|un1 (v:=(B (!r_1))) rfl<|dnil ?_
  refine Sv.cnd rfl h (fun h=>?_) fun h=>?_
  ·refine ssr<|un1 rfl<|dnil<|Sv.ret ?_
   exact hr _ (rt0 h rfl rfl ⟨rfl,rfl,rfl⟩)
  ·refine Sv.skip<|srg<|un1 rfl<|un1 (v:=(I (wi (m_+1)))) rfl<|un1 rfl<|dnil ?_
   exact hself (wi (m_+1)) h _ (wcn [0] rfl (.cf rfl rfl (.cf rfl rfl (.cr rfl rfl rfl (.cf rfl rfl (.cf rfl rfl .nil))))) (.box (by decide) rfl (blkAs_cells (.sm rfl (.sm rfl .nil))) .nil))
 ·refine Sv.exit ?_
  exact hK4 () h _ (wcn [0] rfl (.cf rfl rfl (.cr rfl rfl rfl (.cf rfl rfl (.cf rfl rfl .nil)))) (.box (by decide) rfl (blkAs_cells (.sm rfl (.sm rfl .nil))) .nil))
abbrev Zby (l_:(List Raw)) (i_:Int) (x_:TSPath) (F_:Int→Option Bool) (o:Bool) (R_:St→Prop):Prop:=∀(k_:Int),F_ k_=some o→∀ s,Weak 0 s ⟨(ue [(5,(I k_)),(4,(.c (.ref 0 2 0 0))),(3,(I i_)),(0,(.c (.ro false 2 (l_.map eRaw))))]),(upd e0 0 (some (.cells 2 [(e_TSPath x_)]))),1⟩→R_ s
abbrev Zbz (l_:(List Raw)) (i_:Int) (F_:Unit→Option Bool) (o:Bool) (R_:St→Prop):Prop:=∀(_:Unit),F_ ()=some o→∀ s,Weak 0 s ⟨(ue [(3,(I i_)),(0,(.c (.ro false 2 (l_.map eRaw))))]),e0,0⟩→R_ s
abbrev Zgw (mL:Int) (Q:AExit→St→Prop):AExit→St→Prop:=AThen (Sv Tryz.prog (GG mL) 0 a14_c2 Q) Q
abbrev Zc0 (mL:Int) (Q:AExit→St→Prop):AExit→St→Prop:=ABlock 3 (Zgw mL Q)
abbrev Zgx (mL:Int) (Q:AExit→St→Prop):AExit→St→Prop:=AThen (Sv Tryz.prog (GG mL) 0 a14_c3 (Zc0 mL Q)) (Zc0 mL Q)
noncomputable def Z20 (x_:TSPath) (k_:Int) (recf:(List Raw)→Option Bool) (l_:(List Raw)) (i_:Int) (self:Int→Option Bool) (K2_:Unit→Option Bool) (v58:Bool):Option Bool :=
 if v58 then
  some false
 else
  limF fun kk=>Ze x_ k_ recf l_ i_ (fun (_:Unit) => 
    self (wi (k_+1))) kk 0
theorem Z85 {mL:Int}{Q:AExit→St→Prop}{x_:TSPath}{k_:Int}{recf:(List Raw)→Option Bool}{l_:(List Raw)}{i_:Int}{self:Int→Option Bool}{K2_:Unit→Option Bool}{v58:Bool}{o:Bool}(h:Z20 x_ k_ recf l_ i_ self K2_ v58=some o)
  (hself:Zby l_ i_ x_ self o (Q .normal))
  (hK2:Zbz l_ i_ K2_ o (Q (.exit 2)))
  (hr:∀ s,Ends a14.results 0 (Z5b o) .ret s→Q .ret s)
  (hrec:Z1y mL recf) :
  Sv Tryz.prog (GG mL) 0 a14_c0 (Zgx mL Q) ⟨(ue [(58,(B v58)),(5,(I k_)),(4,(.c (.ref 0 2 0 0))),(3,(I i_)),(0,(.c (.ro false 2 (l_.map eRaw))))]),(upd e0 0 (some (.cells 2 [(e_TSPath x_)]))),1⟩:=by
 unfold Z20 at h
 refine Sv.cnd rfl h (fun h=>?_) fun h=>?_
 ·refine ssr<|un1 rfl<|dnil<|Sv.ret ?_
  exact hr _ (rt0 h rfl rfl ⟨rfl,rfl,rfl⟩)
 ·refine Sv.skip<|ssr<|un1 rfl<|dnil<|Sv.block ?_
  obtain ⟨kk,h⟩:=limF_some h
  refine Sv.weak (wcn [0] rfl (.cf rfl rfl (.cf rfl rfl (.cr rfl rfl rfl (.cf rfl rfl (.cf rfl rfl .nil))))) (.box (by decide) rfl (blkAs_cells (.sm rfl (.sm rfl .nil))) .nil)) (Zgv h ?_ hr hrec)
  ·intro _ h _ hw1
   refine Sv.weak hw1<|srg<|un1 rfl<|un1 (v:=(I (wi (k_+1)))) rfl<|un1 rfl<|dnil ?_
   exact hself (wi (k_+1)) h _ (wcn [0] rfl (.cf rfl rfl (.cr rfl rfl rfl (.cf rfl rfl (.cf rfl rfl .nil)))) (.box (by decide) rfl (blkAs_cells (.sm rfl (.sm rfl .nil))) .nil))
abbrev Zc1 (l_:(List Raw)) (i_:Int) (x_:TSPath) (F_:Nat→Int→Option Bool) (o:Bool):Nat→St→Prop:=fun k s=>∃(k_:Int),F_ k k_=some o∧s=⟨(ue [(5,(I k_)),(4,(.c (.ref 0 2 0 0))),(3,(I i_)),(0,(.c (.ro false 2 (l_.map eRaw))))]),(upd e0 0 (some (.cells 2 [(e_TSPath x_)]))),1⟩
noncomputable def Z1 (x_:TSPath) (recf:(List Raw)→Option Bool) (l_:(List Raw)) (i_:Int) (K2_:Unit→Option Bool):Nat→Int→Option Bool
 | 0,_=>none
 | k+1,k_ =>
  if decide (k_<(x_.Steps.length:Int)) then
   (at? x_.Steps k_).bind fun x_4 =>
   if decide ((x_4.length:Int)=0) then
    Z20 x_ k_ recf l_ i_ (Z1 x_ recf l_ i_ K2_ k) K2_ true
   else
    if decide (0<k_) then
     (at? x_.Joins (wi (k_ - 1))).bind fun x_5 =>
     (Z1t [32,62,43,126] x_5).bind fun r_2 =>
     Z20 x_ k_ recf l_ i_ (Z1 x_ recf l_ i_ K2_ k) K2_ (!r_2)
    else
     Z20 x_ k_ recf l_ i_ (Z1 x_ recf l_ i_ K2_ k) K2_ false
  else
   K2_ ()
theorem Zgy {mL:Int}{Q:AExit→St→Prop}{x_:TSPath}{recf:(List Raw)→Option Bool}{l_:(List Raw)}{i_:Int}{K2_:Unit→Option Bool}{k:Nat}{k_:Int}{o:Bool}(h:Z1 x_ recf l_ i_ K2_ k k_=some o)
  (hK2:Zbz l_ i_ K2_ o (Q (.exit 2)))
  (hr:∀ s,Ends a14.results 0 (Z5b o) .ret s→Q .ret s)
  (hrec:Z1y mL recf) :
  Sv Tryz.prog (GG mL) 0 (.loop a14_c4) Q ⟨(ue [(5,(I k_)),(4,(.c (.ref 0 2 0 0))),(3,(I i_)),(0,(.c (.ro false 2 (l_.map eRaw))))]),(upd e0 0 (some (.cells 2 [(e_TSPath x_)]))),1⟩:=by
 refine Sv.loop (I:=Zc1 l_ i_ x_ (Z1 x_ recf l_ i_ K2_) o) (fun k s hI=>?_) ⟨k_,h,rfl⟩
 clear h
 clear k_
 obtain ⟨k_,h,rfl⟩:=hI
 cases k with
 | zero=>cases h
 | succ k =>
 rw [Z1] at h
 have hself:Zby l_ i_ x_ (Z1 x_ recf l_ i_ K2_ k) o (rnd 0 (Zc1 l_ i_ x_ (Z1 x_ recf l_ i_ K2_) o) k Q):=fun k_ h s hw=>⟨_,k,hw,Nat.lt_succ_self k,k_,h,rfl⟩
 refine Sv.seq<|ssr<|un1 rfl<|un1 (v:=(.c (.ref 0 2 0 0))) rfl<|un1 (v:=(.c (.ro false 1 (x_.Steps.map (eSl 7 e_TSTest))))) rfl<|un1 (v:=(I (x_.Steps.length:Int))) (s_len (e:=(eSl 7 e_TSTest)) (xs:=x_.Steps) rfl)<|un1 (v:=(B (decide (k_<(x_.Steps.length:Int))))) rfl<|dnil ?_
 refine Sv.cnd rfl h (fun h=>?_) fun h=>?_
 ·refine Sv.skip<|Sv.seq<|Sv.block<|Sv.seq<|ssr<|un1 (v:=(.c (.ref 0 2 0 0))) rfl<|un1 (v:=(.c (.ro false 1 (x_.Steps.map (eSl 7 e_TSTest))))) rfl<|un1 rfl ?_
  obtain ⟨x_4,hx5,h⟩:=bnd h
  refine un1 (v:=(.c (.rop [.ro false 7 (x_4.map e_TSTest)]))) (s_iaddr (e:=(eSl 7 e_TSTest)) (xs:=x_.Steps) rfl rfl hx5)<|un1 (v:=(.c (.ro false 7 (x_4.map e_TSTest)))) rfl<|un1 (v:=(I (x_4.length:Int))) (s_len (e:=e_TSTest) (xs:=x_4) rfl)<|un1 (v:=(B (decide ((x_4.length:Int)=0)))) rfl<|un1 rfl ?_
  refine spl h (fun h=>?_) fun h=>?_
  ·repeat (first | refine gu rfl ?_ | refine gs rfl rfl ?_)
   refine un1 (v:=(B true)) rfl<|dnil ?_
   exact Sv.weak (wcn [0] rfl (.cf rfl rfl (.cf rfl rfl (.cr rfl rfl rfl (.cf rfl rfl (.cf rfl rfl .nil))))) (.box (by decide) rfl (blkAs_cells (.sm rfl (.sm rfl .nil))) .nil)) (Z85 h hself hK2 hr hrec)
  ·refine gt rfl<|a1 rfl<|gt rfl<|a1 (v:=(B (decide (0<k_)))) rfl<|gt rfl<|a1 rfl ?_
   refine spl h (fun h=>?_) fun h=>?_
   ·refine gt rfl<|a1 (v:=(.c (.ref 0 2 0 1))) rfl<|gt rfl<|a1 (v:=(.c (.ro false 1 (x_.Joins.map (eK .u8))))) rfl<|gt rfl<|a1 rfl<|gt rfl<|a1 (v:=(I (wi (k_ - 1)))) rfl ?_
    obtain ⟨x_5,hx6,h⟩:=bnd h
    refine gt rfl<|a1 (v:=(.c (.rop [.val (.int .u8 x_5)]))) (s_iaddr (e:=(eK .u8)) (xs:=x_.Joins) rfl rfl hx6)<|gt rfl<|a1 (v:=(.c (.val (.int .u8 x_5)))) rfl ?_
    obtain ⟨r_2,hr3,h⟩:=bnd h
    refine gt rfl<|ac_pure (Zap hr3) rfl rfl rfl<|gt rfl<|a1 (v:=(B (!r_2))) rfl<|gt rfl<|a1 (v:=(B (!r_2))) rfl<|un1 (v:=(B (!r_2))) rfl<|dnil ?_
    exact Sv.weak (wcn [0] rfl (.cf rfl rfl (.cf rfl rfl (.cr rfl rfl rfl (.cf rfl rfl (.cf rfl rfl .nil))))) (.box (by decide) rfl (blkAs_cells (.sm rfl (.sm rfl .nil))) .nil)) (Z85 h hself hK2 hr hrec)
   ·repeat (first | refine gu rfl ?_ | refine gs rfl rfl ?_)
    refine gt rfl<|a1 (v:=(B false)) rfl<|un1 (v:=(B false)) rfl<|dnil ?_
    exact Sv.weak (wcn [0] rfl (.cf rfl rfl (.cf rfl rfl (.cr rfl rfl rfl (.cf rfl rfl (.cf rfl rfl .nil))))) (.box (by decide) rfl (blkAs_cells (.sm rfl (.sm rfl .nil))) .nil)) (Z85 h hself hK2 hr hrec)
 ·refine Sv.exit ?_
  exact hK2 () h _ (wcn [] rfl (.cf rfl rfl (.cf rfl rfl .nil)) .nil)
abbrev Zgz (l_:(List Raw)) (F_:Unit→Option Bool) (o:Bool) (R_:St→Prop):Prop:=∀(_:Unit),F_ ()=some o→∀ s,Weak 0 s ⟨(upd e0 0 (some (.c (.ro false 2 (l_.map eRaw))))),e0,0⟩→R_ s
abbrev Zc2 (l_:(List Raw)) (F_:Nat→Int→Option Bool) (o:Bool):Nat→St→Prop:=fun k s=>∃(i_:Int),F_ k i_=some o∧s=⟨(ue [(3,(I i_)),(0,(.c (.ro false 2 (l_.map eRaw))))]),e0,0⟩
abbrev Zh0 (l_:(List Raw)) (F_:Int→Option Bool) (o:Bool) (R_:St→Prop):Prop:=∀(i_:Int),F_ i_=some o→∀ s,Weak 0 s ⟨(ue [(3,(I i_)),(0,(.c (.ro false 2 (l_.map eRaw))))]),e0,0⟩→R_ s
noncomputable def Z6 (l_:(List Raw)) (recf:(List Raw)→Option Bool) (K0_:Unit→Option Bool):Nat→Int→Option Bool
 | 0,_=>none
 | k+1,i_ =>
  if decide (i_<(l_.length:Int)) then
   (at? l_ i_).bind fun r_ =>
   (Z3 r_.c).bind fun x_ =>
   if ((decide ((x_.Steps.length:Int)=0))||(!decide ((x_.Joins.length:Int)=(wi ((x_.Steps.length:Int) - 1))))) then
    some false
   else
    limF fun kk1=>Z1 x_ recf l_ i_ (fun (_:Unit) => 
      (Z6 l_ recf K0_ k) (wi (i_+1))) kk1 0
  else
   K0_ ()
theorem Zh1 {mL:Int}{Q:AExit→St→Prop}{l_:(List Raw)}{recf:(List Raw)→Option Bool}{K0_:Unit→Option Bool}{k:Nat}{i_:Int}{o:Bool}(h:Z6 l_ recf K0_ k i_=some o)
  (hK0:Zgz l_ K0_ o (Q (.exit 0)))
  (hr:∀ s,Ends a14.results 0 (Z5b o) .ret s→Q .ret s)
  (hrec:Z1y mL recf) :
  Sv Tryz.prog (GG mL) 0 (.loop a14_c5) Q ⟨(ue [(3,(I i_)),(0,(.c (.ro false 2 (l_.map eRaw))))]),e0,0⟩:=by
 refine Sv.loop (I:=Zc2 l_ (Z6 l_ recf K0_) o) (fun k s hI=>?_) ⟨i_,h,rfl⟩
 clear h
 clear i_
 obtain ⟨i_,h,rfl⟩:=hI
 cases k with
 | zero=>cases h
 | succ k =>
 rw [Z6] at h
 have hself:Zh0 l_ (Z6 l_ recf K0_ k) o (rnd 0 (Zc2 l_ (Z6 l_ recf K0_) o) k Q):=fun i_ h s hw=>⟨_,k,hw,Nat.lt_succ_self k,i_,h,rfl⟩
 refine Sv.seq<|ssr<|un1 rfl<|un1 rfl<|un1 (v:=(I (l_.length:Int))) (s_len (e:=eRaw) (xs:=l_) rfl)<|un1 (v:=(B (decide (i_<(l_.length:Int))))) rfl<|dnil ?_
 refine Sv.cnd rfl h (fun h=>?_) fun h=>?_
 ·refine Sv.skip<|Sv.seq<|Sv.block<|ssr<|un1 rfl<|un1 rfl ?_
  obtain ⟨r_,hr1,h⟩:=bnd h
  obtain ⟨x_,hd,h⟩:=bnd h
  have hx1:at? l_ i_=some (⟨e_TSPath x_,rfl⟩:Raw):=by rw [hr1,raw_eq rfl (Z18 hd)]
  refine un1 (v:=(.c (.rop (e_TSPath x_)))) (s_iaddr (e:=eRaw) (xs:=l_) rfl rfl hx1)<|un1 (v:=(.agg (e_TSPath x_))) rfl<|un<|a2v (v:=(.c (.ref 0 2 0 0))) (h' := upd _ 0 (some (.cells 2 [[.ro true 1 [],.ro true 1 []]]))) (n' := 1) rfl rfl hcs<|un<|a2n (h' := upd _ 0 (some (.cells 2 [(e_TSPath x_)]))) (n' := 1) rfl rfl hcs<|dnil<|Sv.seq<|ssr<|un1 (v:=(.c (.ref 0 2 0 0))) rfl<|un1 (v:=(.c (.ro false 1 (x_.Steps.map (eSl 7 e_TSTest))))) rfl<|un1 (v:=(I (x_.Steps.length:Int))) (s_len (e:=(eSl 7 e_TSTest)) (xs:=x_.Steps) rfl)<|un1 (v:=(B (decide ((x_.Steps.length:Int)=0)))) rfl<|un1 rfl ?_
  refine gjoin 9 (d:=30) (v:=(B ((decide ((x_.Steps.length:Int)=0))||(!decide ((x_.Joins.length:Int)=(wi ((x_.Steps.length:Int) - 1))))))) (fun X hX=>?_) ?_
  ·refine split2 (fun hc2=>?_) (fun hc2=>?_)
   ·repeat (first | refine gu rfl ?_ | refine gs rfl rfl ?_)
    refine un1 (v:=(B true)) rfl<|dnil ?_
    exact hX _ (.putEq (by rw [hc2]; rfl) (by repeat (first | exact .putEq (by rw [hc2]) (.refl _) | refine .skp ?_ rfl)))
   ·refine gt rfl<|a1 (v:=(.c (.ref 0 2 0 1))) rfl<|gt rfl<|a1 (v:=(.c (.ro false 1 (x_.Joins.map (eK .u8))))) rfl<|gt rfl<|a1 (v:=(I (x_.Joins.length:Int))) (s_len (e:=(eK .u8)) (xs:=x_.Joins) rfl)<|gt rfl<|a1 (v:=(.c (.ref 0 2 0 0))) rfl<|gt rfl<|a1 (v:=(.c (.ro false 1 (x_.Steps.map (eSl 7 e_TSTest))))) rfl<|gt rfl<|a1 (v:=(I (x_.Steps.length:Int))) (s_len (e:=(eSl 7 e_TSTest)) (xs:=x_.Steps) rfl)<|gt rfl<|a1 (v:=(I (wi ((x_.Steps.length:Int) - 1)))) rfl<|gt rfl<|a1 (v:=(B (!decide ((x_.Joins.length:Int)=(wi ((x_.Steps.length:Int) - 1)))))) rfl<|un1 (v:=(B (!decide ((x_.Joins.length:Int)=(wi ((x_.Steps.length:Int) - 1)))))) rfl<|dnil ?_
    exact hX _ (.putEq (by rw [hc2]; rfl) (by repeat (first | exact .putEq (by rw [hc2]) (.refl _) | refine .skp ?_ rfl)))
  refine dnil ?_
  refine Sv.cnd rfl h (fun h=>?_) fun h=>?_
  ·refine ssr<|un1 rfl<|dnil<|Sv.ret ?_
   exact hr _ (rt0 h rfl rfl ⟨rfl,rfl,rfl⟩)
  ·refine Sv.skip<|ssr<|un1 rfl<|dnil<|Sv.block ?_
   obtain ⟨kk1,h⟩:=limF_some h
   refine Sv.weak (wcn [0] rfl (.cf rfl rfl (.cr rfl rfl rfl (.cf rfl rfl (.cf rfl rfl .nil)))) (.box (by decide) rfl (blkAs_cells (.sm rfl (.sm rfl .nil))) .nil)) (Zgy h ?_ hr hrec)
   ·intro _ h _ hw2
    refine Sv.weak hw2<|srg<|un1 rfl<|un1 (v:=(I (wi (i_+1)))) rfl<|un1 rfl<|dnil ?_
    exact hself (wi (i_+1)) h _ (wcn [] rfl (.cf rfl rfl (.cf rfl rfl .nil)) .nil)
 ·refine Sv.exit ?_
  exact hK0 () h _ (wcn [] rfl (.cf rfl rfl .nil) .nil)
noncomputable def Zo:Nat→(List Raw)→Option Bool
 | 0,_=>none
 | k+1,l_ =>
  limF fun kk2=>Z6 l_ (Zo k) (fun (_:Unit) => 
    some (decide (0<(l_.length:Int)))) kk2 0
noncomputable def Z6g (l_:(List Raw)):Option Bool :=
 limF fun kr=>Zo kr l_
theorem Zh2 {mL:Int}(k:Nat):Z1y mL (Zo k):=by
 induction k with
 | zero=>intro l_ r h; cases h
 | succ k hrec =>
 intro l_ r h
 refine acalls_of_sv hmix c14 (R:=Z5b r) ?_
 rw [Zo] at h
 refine ssr<|un1 rfl<|dnil<|Sv.seq<|ssr<|un1 rfl<|dnil<|Sv.block ?_
 obtain ⟨kk2,h⟩:=limF_some h
 refine Sv.weak (wcn [] rfl (.cf rfl rfl (.cf rfl rfl .nil)) .nil) (Zh1 h ?_ (fun s hs=>hs) hrec)
 ·intro _ h _ hw3
  refine Sv.weak hw3<|ssr<|un1 rfl<|un1 (v:=(I (l_.length:Int))) (s_len (e:=eRaw) (xs:=l_) rfl)<|un1 (v:=(B (decide (0<(l_.length:Int))))) rfl<|un1 rfl<|dnil<|Sv.ret ?_
  exact rt0 h rfl rfl ⟨rfl,rfl,rfl⟩
theorem Zh3 {mL:Int}{l_:(List Raw)}{r:Bool}(h:Z6g l_=some r):CPure Tryz.prog (GG mL) 14 [(.c (.ro false 2 (l_.map eRaw)))] (B r):=by
 unfold Z6g at h
 obtain ⟨k,h⟩:=limF_some h
 exact Zh2 k l_  r h
def a7:AFunc:=⟨1,[(.tmp 2)],(sr [(oP 2 (.mov (kI 0)))]
 (sr [(mV 4 0),(oP 5 (.call 13 [(.tmp 4),(kI 0)])),(mV 3 5)]
 (.seq (sr [(mV 6 3),(oP 7 (.bin .lss (.tmp 6) (kI 0))),(mV 8 7),⟨(some 9),(.mov (.tmp 3)),(some (8,false))⟩,⟨(some 10),(.bin .gtr (.tmp 9) (kI 40)),(some (8,false))⟩,(oP 11 (.pick (.tmp 8) kT (.tmp 10)))]
 (.cond (.tmp 11) (sr [(oP 2 (.mov (kI 2)))]
 .ret) .skip))
 (.seq (sr [(mV 12 0),(oP 13 (.call 14 [(.tmp 12)])),(oP 14 (.un .not (.tmp 13)))]
 (.cond (.tmp 14) (sr [(oP 2 (.mov (kI 3)))]
 .ret) .skip))
 (sr [(oP 2 (.mov (kI 0)))]
 .ret)))))⟩
theorem c7:compFunc Tryz.prog 7=some a7:=by kernel_rfl
def Zh4 (r:Int):AV→Heap→Nat→Prop:=fun v h' n' => v=(I r)∧(h' = e0)∧n' = 0
noncomputable def Z5c (l_:(List Raw)):Option Int :=
 (Z67 l_ 0).bind fun r_ =>
 if ((decide (r_<0))||(decide (40<r_))) then
  some 2
 else
  (Z6g l_).bind fun r_1 =>
  if (!r_1) then
   some 3
  else
   some 0
theorem Zh5 {mL:Int}{l_:(List Raw)}{r:Int}(h:Z5c l_=some r):CPure Tryz.prog (GG mL) 7 [(.c (.ro false 2 (l_.map eRaw)))] (I r):=by
 refine acalls_of_sv hmix c7 (R:=Zh4 r) ?_
 unfold Z5c at h
 refine ssr<|un1 rfl<|dnil<|ssr<|un1 rfl ?_
 obtain ⟨r_,hr1,h⟩:=bnd h
 refine un<|ac_pure (Zfh hr1) rfl rfl rfl<|un1 rfl<|dnil<|Sv.seq<|ssr<|un1 rfl<|un1 (v:=(B (decide (r_<0)))) rfl<|un1 rfl ?_
 refine gjoin 3 (d:=11) (v:=(B ((decide (r_<0))||(decide (40<r_))))) (fun X hX=>?_) ?_
 ·refine split2 (fun hc1=>?_) (fun hc1=>?_)
  ·refine gs rfl rfl<|gs rfl rfl<|un1 (v:=(B true)) rfl<|dnil ?_
   exact hX _ (.putEq (by rw [hc1]; rfl) (.skp (.skp (.putEq (by rw [hc1]) (.refl _)) rfl) rfl))
  ·refine gt rfl<|a1 rfl<|gt rfl<|a1 (v:=(B (decide (40<r_)))) rfl<|un1 (v:=(B (decide (40<r_)))) rfl<|dnil ?_
   exact hX _ (.putEq (by rw [hc1]; rfl) (.skp (.skp (.putEq (by rw [hc1]) (.refl _)) rfl) rfl))
 refine dnil ?_
 refine Sv.cnd rfl h (fun h=>?_) fun h=>?_
 ·refine ssr<|un1 rfl<|dnil<|Sv.ret ?_
  exact rt0 h rfl rfl ⟨rfl,rfl,rfl⟩
 ·refine Sv.skip<|Sv.seq<|ssr<|un1 rfl ?_
  obtain ⟨r_1,hr2,h⟩:=bnd h
  refine un<|ac_pure (Zh3 hr2) rfl rfl rfl<|un1 (v:=(B (!r_1))) rfl<|dnil ?_
  refine Sv.cnd rfl h (fun h=>?_) fun h=>?_
  ·refine ssr<|un1 rfl<|dnil<|Sv.ret ?_
   exact rt0 h rfl rfl ⟨rfl,rfl,rfl⟩
  ·refine Sv.skip<|ssr<|un1 rfl<|dnil<|Sv.ret ?_
   exact rt0 h rfl rfl ⟨rfl,rfl,rfl⟩
def Z86 (r:Int):AV→Heap→Nat→Prop:=fun v h' n' => v=(I r)∧(h' = e0)∧n' = 0
def Z5d (mL:Int) (recf:TSPath→Option Int):Prop:=∀(p_:TSPath) (r:Int),recf p_=some r→CPure Tryz.prog (GG mL) 8 [(.agg (e_TSPath p_))] (I r)
def a15_c0:ACode:=(.seq (sr [(mV 22 4),(oP 23 (.faddr 6 (.tmp 1))),(oP 24 (.load false 1 (.tmp 23))),(oP 25 (.len (.tmp 24))),(oP 26 (.bin .lss (.tmp 22) (.tmp 25)))]
 (.cond (.tmp 26) .skip (.exit 0)))
 (.seq (.block 1 (.region [(mV 29 3),(oP 30 (.faddr 6 (.tmp 1))),(oP 31 (.load false 1 (.tmp 30))),(mV 32 4),(oP 33 (.iaddr 2 (.tmp 31) (.tmp 32))),(oP 34 (.load true 2 (.tmp 33))),(oP 35 (.call 8 [(.tmp 34)])),(oP 36 (.mm true [(.tmp 29),(.tmp 35)])),(mV 3 36)]))
 (.region [(mV 27 4),(oP 28 (.bin .add (.tmp 27) (kI 1))),(mV 4 28)])))
def a15:AFunc:=⟨1,[(.tmp 2)],(sr [(oP 1 (.box (.tmp 0))),(oP 2 (.mov (kI 0)))]
 (.seq (sr [(oP 5 (.faddr 0 (.tmp 1))),(oP 6 (.load false 1 (.tmp 5))),(oP 7 (.bin .eql (.tmp 6) (kI 1)))]
 (.cond (.tmp 7) (sr [(oP 2 (.mov (kI 0)))]
 .ret) .skip))
 (.seq (sr [(oP 8 (.faddr 0 (.tmp 1))),(oP 9 (.load false 1 (.tmp 8))),(oP 10 (.bin .eql (.tmp 9) (kI 2)))]
 (.cond (.tmp 10) (sr [(oP 2 (.mov (kI 1)))]
 .ret) .skip))
 (.seq (sr [(oP 11 (.faddr 0 (.tmp 1))),(oP 12 (.load false 1 (.tmp 11))),(oP 13 (.bin .eql (.tmp 12) (kI 3)))]
 (.cond (.tmp 13) (sr [(oP 2 (.mov (kI 1000000)))]
 .ret) .skip))
 (.seq (sr [(oP 14 (.faddr 0 (.tmp 1))),(oP 15 (.load false 1 (.tmp 14))),(oP 16 (.bin .eql (.tmp 15) (kI 10))),(mV 17 16),⟨(some 18),(.faddr 0 (.tmp 1)),(some (17,false))⟩,⟨(some 19),(.load false 1 (.tmp 18)),(some (17,false))⟩,⟨(some 20),(.bin .eql (.tmp 19) (kI 11)),(some (17,false))⟩,(oP 21 (.pick (.tmp 17) kT (.tmp 20)))]
 (.cond (.tmp 21) (sr [(oP 3 (.mov (kI 0)))]
 (.seq (sr [(oP 4 (.mov (kI 0)))]
 (.block 0 (.loop a15_c0)))
 (sr [(mV 37 3),(mV 2 37)]
 .ret))) .skip))
 (sr [(oP 2 (.mov (kI 1000)))]
 .ret))))))⟩
theorem c15:compFunc Tryz.prog 15=some a15:=by kernel_rfl
def Zc3 (r:Int):AV→Heap→Nat→Prop:=fun v h' n' => v=(I r)∧(h' = e0)∧n' = 0
abbrev Zh6 (F_:Int→Option Int) (o:Int) (R_:St→Prop):Prop:=∀(most1:Int),F_ most1=some o→∀ s,Weak 0 s ⟨(upd e0 3 (some (I most1))),e0,0⟩→R_ s
abbrev Zc4 (t_:TSTest) (F_:Nat→Int→Int→Option Int) (o:Int):Nat→St→Prop:=fun k s=>∃(most:Int),∃(i_:Int),F_ k most i_=some o∧s=⟨(ue [(4,(I i_)),(3,(I most)),(1,(.c (.ref 0 7 0 0)))]),(upd e0 0 (some (.cells 7 [(e_TSTest t_)]))),1⟩
abbrev Zh7 (t_:TSTest) (F_:Int→Int→Option Int) (o:Int) (R_:St→Prop):Prop:=∀(most:Int) (i_:Int),F_ most i_=some o→∀ s,Weak 0 s ⟨(ue [(4,(I i_)),(3,(I most)),(1,(.c (.ref 0 7 0 0)))]),(upd e0 0 (some (.cells 7 [(e_TSTest t_)]))),1⟩→R_ s
noncomputable def Zp (t_:TSTest) (rec_clerestoryref2_PathWeight:TSPath→Option Int) (K0_:Int→Option Int):Nat→Int→Int→Option Int
 | 0,_,_=>none
 | k+1,most,i_ =>
  if decide (i_<(t_.Subs.length:Int)) then
   (at? t_.Subs i_).bind fun r_ =>
   (Z3 r_.c).bind fun x_ =>
   (rec_clerestoryref2_PathWeight x_).bind fun r_1 =>
   (Zp t_ rec_clerestoryref2_PathWeight K0_ k) (mx most r_1) (wi (i_+1))
  else
   K0_ most
theorem Zh8 {mL:Int}{Q:AExit→St→Prop}{t_:TSTest}{rec_clerestoryref2_PathWeight:TSPath→Option Int}{K0_:Int→Option Int}{k:Nat}{most:Int}{i_:Int}{o:Int}(h:Zp t_ rec_clerestoryref2_PathWeight K0_ k most i_=some o)
  (hK0:Zh6 K0_ o (Q (.exit 0)))
  (hr:∀ s,Ends a15.results 0 (Zc3 o) .ret s→Q .ret s)
  (hrec_clerestoryref2_PathWeight:Z5d mL rec_clerestoryref2_PathWeight) :
  Sv Tryz.prog (GG mL) 0 (.loop a15_c0) Q ⟨(ue [(4,(I i_)),(3,(I most)),(1,(.c (.ref 0 7 0 0)))]),(upd e0 0 (some (.cells 7 [(e_TSTest t_)]))),1⟩:=by
 refine Sv.loop (I:=Zc4 t_ (Zp t_ rec_clerestoryref2_PathWeight K0_) o) (fun k s hI=>?_) ⟨most,i_,h,rfl⟩
 clear h
 clear i_ most
 obtain ⟨most,i_,h,rfl⟩:=hI
 cases k with
 | zero=>cases h
 | succ k =>
 rw [Zp] at h
 have hself:Zh7 t_ (Zp t_ rec_clerestoryref2_PathWeight K0_ k) o (rnd 0 (Zc4 t_ (Zp t_ rec_clerestoryref2_PathWeight K0_) o) k Q):=fun most i_ h s hw=>⟨_,k,hw,Nat.lt_succ_self k,most,i_,h,rfl⟩
 refine Sv.seq<|ssr<|un1 rfl<|un1 (v:=(.c (.ref 0 7 0 6))) rfl<|un1 (v:=(.c (.ro false 2 (t_.Subs.map eRaw)))) rfl<|un1 (v:=(I (t_.Subs.length:Int))) (s_len (e:=eRaw) (xs:=t_.Subs) rfl)<|un1 (v:=(B (decide (i_<(t_.Subs.length:Int))))) rfl<|dnil ?_
 refine Sv.cnd rfl h (fun h=>?_) fun h=>?_
 ·refine Sv.skip<|Sv.seq<|Sv.block<|srg<|un1 rfl<|un1 (v:=(.c (.ref 0 7 0 6))) rfl<|un1 (v:=(.c (.ro false 2 (t_.Subs.map eRaw)))) rfl<|un1 rfl ?_
  obtain ⟨r_,hr1,h⟩:=bnd h
  obtain ⟨x_,hd,h⟩:=bnd h
  have hx1:at? t_.Subs i_=some (⟨e_TSPath x_,rfl⟩:Raw):=by rw [hr1,raw_eq rfl (Z18 hd)]
  refine un1 (v:=(.c (.rop (e_TSPath x_)))) (s_iaddr (e:=eRaw) (xs:=t_.Subs) rfl rfl hx1)<|un1 (v:=(.agg (e_TSPath x_))) rfl ?_
  obtain ⟨r_1,hr2,h⟩:=bnd h
  refine un<|ac_pure (hrec_clerestoryref2_PathWeight x_ _ hr2) rfl rfl rfl<|un1 (v:=(I (mx most r_1))) (s_mx rfl rfl)<|un1 rfl<|dnil<|srg<|un1 rfl<|un1 (v:=(I (wi (i_+1)))) rfl<|un1 rfl<|dnil ?_
  exact hself (mx most r_1) (wi (i_+1)) h _ (wcn [0] rfl (.cf rfl rfl (.cf rfl rfl (.cr rfl rfl rfl .nil))) (.box (by decide) rfl (blkAs_cells (.sm rfl (.sm rfl (.sm rfl (.sm rfl (.sm rfl (.sm rfl (.sm rfl .nil)))))))) .nil))
 ·refine Sv.exit ?_
  exact hK0 most h _ (wcn [] rfl (.cf rfl rfl .nil) .nil)
noncomputable def Z21 (rec_clerestoryref2_PathWeight:TSPath→Option Int) (t_:TSTest):Option Int :=
 if decide (t_.Kind=1) then
  some 0
 else
  if decide (t_.Kind=2) then
   some 1
  else
   if decide (t_.Kind=3) then
    some 1000000
   else
    if ((decide (t_.Kind=10))||(decide (t_.Kind=11))) then
     limF fun kk=>Zp t_ rec_clerestoryref2_PathWeight (fun (most1:Int) => 
       some most1) kk 0 0
    else
     some 1000
theorem Zh9 {mL:Int}{rec_clerestoryref2_PathWeight:TSPath→Option Int}(hrec_clerestoryref2_PathWeight:Z5d mL rec_clerestoryref2_PathWeight) {t_:TSTest}{r:Int}(h:Z21 rec_clerestoryref2_PathWeight t_=some r):CPure Tryz.prog (GG mL) 15 [(.agg (e_TSTest t_))] (I r):=by
 refine acalls_of_sv hmix c15 (R:=Zc3 r) ?_
 unfold Z21 at h
 refine ssr<|un<|a2v (v:=(.c (.ref 0 7 0 0))) (h' := upd _ 0 (some (.cells 7 [(e_TSTest t_)]))) (n' := 1) rfl rfl hcs<|un1 rfl<|dnil<|Sv.seq<|ssr<|un1 (v:=(.c (.ref 0 7 0 0))) rfl<|un1 (v:=(I t_.Kind)) rfl<|un1 (v:=(B (decide (t_.Kind=1)))) rfl<|dnil ?_
 refine Sv.cnd rfl h (fun h=>?_) fun h=>?_
 ·refine ssr<|un1 rfl<|dnil<|Sv.ret ?_
  exact rt0 h rfl rfl ⟨rfl,rfl,rfl⟩
 ·refine Sv.skip<|Sv.seq<|ssr<|un1 (v:=(.c (.ref 0 7 0 0))) rfl<|un1 (v:=(I t_.Kind)) rfl<|un1 (v:=(B (decide (t_.Kind=2)))) rfl<|dnil ?_
  refine Sv.cnd rfl h (fun h=>?_) fun h=>?_
  ·refine ssr<|un1 rfl<|dnil<|Sv.ret ?_
   exact rt0 h rfl rfl ⟨rfl,rfl,rfl⟩
  ·refine Sv.skip<|Sv.seq<|ssr<|un1 (v:=(.c (.ref 0 7 0 0))) rfl<|un1 (v:=(I t_.Kind)) rfl<|un1 (v:=(B (decide (t_.Kind=3)))) rfl<|dnil ?_
   refine Sv.cnd rfl h (fun h=>?_) fun h=>?_
   ·refine ssr<|un1 rfl<|dnil<|Sv.ret ?_
    exact rt0 h rfl rfl ⟨rfl,rfl,rfl⟩
   ·refine Sv.skip<|Sv.seq<|ssr<|un1 (v:=(.c (.ref 0 7 0 0))) rfl<|un1 (v:=(I t_.Kind)) rfl<|un1 (v:=(B (decide (t_.Kind=10)))) rfl<|un1 rfl ?_
    refine gjoin 4 (d:=21) (v:=(B ((decide (t_.Kind=10))||(decide (t_.Kind=11))))) (fun X hX=>?_) ?_
    ·refine split2 (fun hc4=>?_) (fun hc4=>?_)
     ·refine gs rfl rfl<|gs rfl rfl<|gs rfl rfl<|un1 (v:=(B true)) rfl<|dnil ?_
      exact hX _ (.putEq (by rw [hc4]; rfl) (.skp (.skp (.skp (.putEq (by rw [hc4]) (.refl _)) rfl) rfl) rfl))
     ·refine gt rfl<|a1 (v:=(.c (.ref 0 7 0 0))) rfl<|gt rfl<|a1 (v:=(I t_.Kind)) rfl<|gt rfl<|a1 (v:=(B (decide (t_.Kind=11)))) rfl<|un1 (v:=(B (decide (t_.Kind=11)))) rfl<|dnil ?_
      exact hX _ (.putEq (by rw [hc4]; rfl) (.skp (.skp (.skp (.putEq (by rw [hc4]) (.refl _)) rfl) rfl) rfl))
    refine dnil ?_
    refine Sv.cnd rfl h (fun h=>?_) fun h=>?_
    ·refine ssr<|un1 rfl<|dnil<|Sv.seq<|ssr<|un1 rfl<|dnil<|Sv.block ?_
     obtain ⟨kk,h⟩:=limF_some h
     refine Sv.weak (wcn [0] rfl (.cf rfl rfl (.cf rfl rfl (.cr rfl rfl rfl .nil))) (.box (by decide) rfl (blkAs_cells (.sm rfl (.sm rfl (.sm rfl (.sm rfl (.sm rfl (.sm rfl (.sm rfl .nil)))))))) .nil)) (Zh8 h ?_ (fun s hs=>hs) hrec_clerestoryref2_PathWeight)
     ·intro most1 h _ hw1
      refine Sv.weak hw1<|ssr<|un1 rfl<|un1 rfl<|dnil<|Sv.ret ?_
      exact rt0 h rfl rfl ⟨rfl,rfl,rfl⟩
    ·refine Sv.skip<|ssr<|un1 rfl<|dnil<|Sv.ret ?_
     exact rt0 h rfl rfl ⟨rfl,rfl,rfl⟩
def a8_c0:ACode:=(.seq (sr [(mV 13 5),(oP 14 (.faddr 0 (.tmp 1))),(oP 15 (.load false 1 (.tmp 14))),(mV 16 4),(oP 17 (.iaddr 1 (.tmp 15) (.tmp 16))),(oP 18 (.load false 1 (.tmp 17))),(oP 19 (.len (.tmp 18))),(oP 20 (.bin .lss (.tmp 13) (.tmp 19)))]
 (.cond (.tmp 20) .skip (.exit 2)))
 (.seq (.block 3 (.region [(mV 23 3),(oP 24 (.faddr 0 (.tmp 1))),(oP 25 (.load false 1 (.tmp 24))),(mV 26 4),(oP 27 (.iaddr 1 (.tmp 25) (.tmp 26))),(oP 28 (.load false 1 (.tmp 27))),(mV 29 5),(oP 30 (.iaddr 7 (.tmp 28) (.tmp 29))),(oP 31 (.load true 7 (.tmp 30))),(oP 32 (.call 15 [(.tmp 31)])),(oP 33 (.bin .add (.tmp 23) (.tmp 32))),(mV 3 33)]))
 (.region [(mV 21 5),(oP 22 (.bin .add (.tmp 21) (kI 1))),(mV 5 22)])))
def a8_c1:ACode:=(.seq (sr [(mV 6 4),(oP 7 (.faddr 0 (.tmp 1))),(oP 8 (.load false 1 (.tmp 7))),(oP 9 (.len (.tmp 8))),(oP 10 (.bin .lss (.tmp 6) (.tmp 9)))]
 (.cond (.tmp 10) .skip (.exit 0)))
 (.seq (.block 1 (sr [(oP 5 (.mov (kI 0)))]
 (.block 2 (.loop a8_c0))))
 (.region [(mV 11 4),(oP 12 (.bin .add (.tmp 11) (kI 1))),(mV 4 12)])))
def a8:AFunc:=⟨1,[(.tmp 2)],(sr [(oP 1 (.box (.tmp 0))),(oP 2 (.mov (kI 0)))]
 (sr [(oP 3 (.mov (kI 0)))]
 (.seq (sr [(oP 4 (.mov (kI 0)))]
 (.block 0 (.loop a8_c1)))
 (sr [(mV 34 3),(mV 2 34)]
 .ret))))⟩
theorem c8:compFunc Tryz.prog 8=some a8:=by kernel_rfl
abbrev Zha (i_:Int) (p_:TSPath) (F_:Int→Option Int) (o:Int) (R_:St→Prop):Prop:=∀(n_3:Int),F_ n_3=some o→∀ s,Weak 0 s ⟨(ue [(4,(I i_)),(3,(I n_3)),(1,(.c (.ref 0 2 0 0)))]),(upd e0 0 (some (.cells 2 [(e_TSPath p_)]))),1⟩→R_ s
abbrev Zc5 (i_:Int) (p_:TSPath) (F_:Nat→Int→Int→Option Int) (o:Int):Nat→St→Prop:=fun k s=>∃(n_2:Int),∃(k_:Int),F_ k n_2 k_=some o∧s=⟨(ue [(5,(I k_)),(4,(I i_)),(3,(I n_2)),(1,(.c (.ref 0 2 0 0)))]),(upd e0 0 (some (.cells 2 [(e_TSPath p_)]))),1⟩
abbrev Zhb (i_:Int) (p_:TSPath) (F_:Int→Int→Option Int) (o:Int) (R_:St→Prop):Prop:=∀(n_2:Int) (k_:Int),F_ n_2 k_=some o→∀ s,Weak 0 s ⟨(ue [(5,(I k_)),(4,(I i_)),(3,(I n_2)),(1,(.c (.ref 0 2 0 0)))]),(upd e0 0 (some (.cells 2 [(e_TSPath p_)]))),1⟩→R_ s
noncomputable def Zq (p_:TSPath) (i_:Int) (recf:TSPath→Option Int) (K2_:Int→Option Int):Nat→Int→Int→Option Int
 | 0,_,_=>none
 | k+1,n_2,k_ =>
  (at? p_.Steps i_).bind fun x_ =>
  if decide (k_<(x_.length:Int)) then
   (at? p_.Steps i_).bind fun x_1 =>
   (at? x_1 k_).bind fun x_2 =>
   (Z21 recf x_2).bind fun r_ =>
   (Zq p_ i_ recf K2_ k) (wi (n_2+r_)) (wi (k_+1))
  else
   K2_ n_2
theorem Zhc {mL:Int}{Q:AExit→St→Prop}{p_:TSPath}{i_:Int}{recf:TSPath→Option Int}{K2_:Int→Option Int}{k:Nat}{n_2:Int}{k_:Int}{o:Int}(h:Zq p_ i_ recf K2_ k n_2 k_=some o)
  (hK2:Zha i_ p_ K2_ o (Q (.exit 2)))
  (hr:∀ s,Ends a8.results 0 (Z86 o) .ret s→Q .ret s)
  (hrec:Z5d mL recf) :
  Sv Tryz.prog (GG mL) 0 (.loop a8_c0) Q ⟨(ue [(5,(I k_)),(4,(I i_)),(3,(I n_2)),(1,(.c (.ref 0 2 0 0)))]),(upd e0 0 (some (.cells 2 [(e_TSPath p_)]))),1⟩:=by
 refine Sv.loop (I:=Zc5 i_ p_ (Zq p_ i_ recf K2_) o) (fun k s hI=>?_) ⟨n_2,k_,h,rfl⟩
 clear h
 clear k_ n_2
 obtain ⟨n_2,k_,h,rfl⟩:=hI
 cases k with
 | zero=>cases h
 | succ k =>
 rw [Zq] at h
 have hself:Zhb i_ p_ (Zq p_ i_ recf K2_ k) o (rnd 0 (Zc5 i_ p_ (Zq p_ i_ recf K2_) o) k Q):=fun n_2 k_ h s hw=>⟨_,k,hw,Nat.lt_succ_self k,n_2,k_,h,rfl⟩
 refine Sv.seq<|ssr<|un1 rfl<|un1 (v:=(.c (.ref 0 2 0 0))) rfl<|un1 (v:=(.c (.ro false 1 (p_.Steps.map (eSl 7 e_TSTest))))) rfl<|un1 rfl ?_
 obtain ⟨x_,hx1,h⟩:=bnd h
 refine un1 (v:=(.c (.rop [.ro false 7 (x_.map e_TSTest)]))) (s_iaddr (e:=(eSl 7 e_TSTest)) (xs:=p_.Steps) rfl rfl hx1)<|un1 (v:=(.c (.ro false 7 (x_.map e_TSTest)))) rfl<|un1 (v:=(I (x_.length:Int))) (s_len (e:=e_TSTest) (xs:=x_) rfl)<|un1 (v:=(B (decide (k_<(x_.length:Int))))) rfl<|dnil ?_
 refine Sv.cnd rfl h (fun h=>?_) fun h=>?_
 ·refine Sv.skip<|Sv.seq<|Sv.block<|srg<|un1 rfl<|un1 (v:=(.c (.ref 0 2 0 0))) rfl<|un1 (v:=(.c (.ro false 1 (p_.Steps.map (eSl 7 e_TSTest))))) rfl<|un1 rfl ?_
  obtain ⟨x_1,hx2,h⟩:=bnd h
  refine un1 (v:=(.c (.rop [.ro false 7 (x_1.map e_TSTest)]))) (s_iaddr (e:=(eSl 7 e_TSTest)) (xs:=p_.Steps) rfl rfl hx2)<|un1 (v:=(.c (.ro false 7 (x_1.map e_TSTest)))) rfl<|un1 rfl ?_
  obtain ⟨x_2,hx3,h⟩:=bnd h
  refine un1 (v:=(.c (.rop (e_TSTest x_2)))) (s_iaddr (e:=e_TSTest) (xs:=x_1) rfl rfl hx3)<|un1 (v:=(.agg (e_TSTest x_2))) rfl ?_
  obtain ⟨r_,hr1,h⟩:=bnd h
  refine un<|ac_pure (Zh9 hrec hr1) rfl rfl rfl<|un1 (v:=(I (wi (n_2+r_)))) rfl<|un1 rfl<|dnil<|srg<|un1 rfl<|un1 (v:=(I (wi (k_+1)))) rfl<|un1 rfl<|dnil ?_
  exact hself (wi (n_2+r_)) (wi (k_+1)) h _ (wcn [0] rfl (.cf rfl rfl (.cf rfl rfl (.cf rfl rfl (.cr rfl rfl rfl .nil)))) (.box (by decide) rfl (blkAs_cells (.sm rfl (.sm rfl .nil))) .nil))
 ·refine Sv.exit ?_
  exact hK2 n_2 h _ (wcn [0] rfl (.cf rfl rfl (.cf rfl rfl (.cr rfl rfl rfl .nil))) (.box (by decide) rfl (blkAs_cells (.sm rfl (.sm rfl .nil))) .nil))
abbrev Zhd (F_:Int→Option Int) (o:Int) (R_:St→Prop):Prop:=∀(n_1:Int),F_ n_1=some o→∀ s,Weak 0 s ⟨(upd e0 3 (some (I n_1))),e0,0⟩→R_ s
abbrev Zc6 (p_:TSPath) (F_:Nat→Int→Int→Option Int) (o:Int):Nat→St→Prop:=fun k s=>∃(n_:Int),∃(i_:Int),F_ k n_ i_=some o∧s=⟨(ue [(4,(I i_)),(3,(I n_)),(1,(.c (.ref 0 2 0 0)))]),(upd e0 0 (some (.cells 2 [(e_TSPath p_)]))),1⟩
abbrev Zhe (p_:TSPath) (F_:Int→Int→Option Int) (o:Int) (R_:St→Prop):Prop:=∀(n_:Int) (i_:Int),F_ n_ i_=some o→∀ s,Weak 0 s ⟨(ue [(4,(I i_)),(3,(I n_)),(1,(.c (.ref 0 2 0 0)))]),(upd e0 0 (some (.cells 2 [(e_TSPath p_)]))),1⟩→R_ s
noncomputable def Zr (p_:TSPath) (recf:TSPath→Option Int) (K0_:Int→Option Int):Nat→Int→Int→Option Int
 | 0,_,_=>none
 | k+1,n_,i_ =>
  if decide (i_<(p_.Steps.length:Int)) then
   limF fun kk=>Zq p_ i_ recf (fun (n_3:Int) => 
     (Zr p_ recf K0_ k) n_3 (wi (i_+1))) kk n_ 0
  else
   K0_ n_
theorem Zhf {mL:Int}{Q:AExit→St→Prop}{p_:TSPath}{recf:TSPath→Option Int}{K0_:Int→Option Int}{k:Nat}{n_:Int}{i_:Int}{o:Int}(h:Zr p_ recf K0_ k n_ i_=some o)
  (hK0:Zhd K0_ o (Q (.exit 0)))
  (hr:∀ s,Ends a8.results 0 (Z86 o) .ret s→Q .ret s)
  (hrec:Z5d mL recf) :
  Sv Tryz.prog (GG mL) 0 (.loop a8_c1) Q ⟨(ue [(4,(I i_)),(3,(I n_)),(1,(.c (.ref 0 2 0 0)))]),(upd e0 0 (some (.cells 2 [(e_TSPath p_)]))),1⟩:=by
 refine Sv.loop (I:=Zc6 p_ (Zr p_ recf K0_) o) (fun k s hI=>?_) ⟨n_,i_,h,rfl⟩
 clear h
 clear i_ n_
 obtain ⟨n_,i_,h,rfl⟩:=hI
 cases k with
 | zero=>cases h
 | succ k =>
 rw [Zr] at h
 have hself:Zhe p_ (Zr p_ recf K0_ k) o (rnd 0 (Zc6 p_ (Zr p_ recf K0_) o) k Q):=fun n_ i_ h s hw=>⟨_,k,hw,Nat.lt_succ_self k,n_,i_,h,rfl⟩
 refine Sv.seq<|ssr<|un1 rfl<|un1 (v:=(.c (.ref 0 2 0 0))) rfl<|un1 (v:=(.c (.ro false 1 (p_.Steps.map (eSl 7 e_TSTest))))) rfl<|un1 (v:=(I (p_.Steps.length:Int))) (s_len (e:=(eSl 7 e_TSTest)) (xs:=p_.Steps) rfl)<|un1 (v:=(B (decide (i_<(p_.Steps.length:Int))))) rfl<|dnil ?_
 refine Sv.cnd rfl h (fun h=>?_) fun h=>?_
 ·refine Sv.skip<|Sv.seq<|Sv.block<|ssr<|un1 rfl<|dnil<|Sv.block ?_
  obtain ⟨kk,h⟩:=limF_some h
  refine Sv.weak (wcn [0] rfl (.cf rfl rfl (.cf rfl rfl (.cf rfl rfl (.cr rfl rfl rfl .nil)))) (.box (by decide) rfl (blkAs_cells (.sm rfl (.sm rfl .nil))) .nil)) (Zhc h ?_ hr hrec)
  ·intro n_3 h _ hw1
   refine Sv.weak hw1<|srg<|un1 rfl<|un1 (v:=(I (wi (i_+1)))) rfl<|un1 rfl<|dnil ?_
   exact hself n_3 (wi (i_+1)) h _ (wcn [0] rfl (.cf rfl rfl (.cf rfl rfl (.cr rfl rfl rfl .nil))) (.box (by decide) rfl (blkAs_cells (.sm rfl (.sm rfl .nil))) .nil))
 ·refine Sv.exit ?_
  exact hK0 n_ h _ (wcn [] rfl (.cf rfl rfl .nil) .nil)
noncomputable def Z16:Nat→TSPath→Option Int
 | 0,_=>none
 | k+1,p_ =>
  limF fun kk1=>Zr p_ (Z16 k) (fun (n_1:Int) => 
    some n_1) kk1 0 0
noncomputable def Z6h (p_:TSPath):Option Int :=
 limF fun kr=>Z16 kr p_
theorem Zhg {mL:Int}(k:Nat):Z5d mL (Z16 k):=by
 induction k with
 | zero=>intro p_ r h; cases h
 | succ k hrec =>
 intro p_ r h
 refine acalls_of_sv hmix c8 (R:=Z86 r) ?_
 rw [Z16] at h
 refine ssr<|un<|a2v (v:=(.c (.ref 0 2 0 0))) (h' := upd _ 0 (some (.cells 2 [(e_TSPath p_)]))) (n' := 1) rfl rfl hcs<|un1 rfl<|dnil<|ssr<|un1 rfl<|dnil<|Sv.seq<|ssr<|un1 rfl<|dnil<|Sv.block ?_
 obtain ⟨kk1,h⟩:=limF_some h
 refine Sv.weak (wcn [0] rfl (.cf rfl rfl (.cf rfl rfl (.cr rfl rfl rfl .nil))) (.box (by decide) rfl (blkAs_cells (.sm rfl (.sm rfl .nil))) .nil)) (Zhf h ?_ (fun s hs=>hs) hrec)
 ·intro n_1 h _ hw2
  refine Sv.weak hw2<|ssr<|un1 rfl<|un1 rfl<|dnil<|Sv.ret ?_
  exact rt0 h rfl rfl ⟨rfl,rfl,rfl⟩
theorem Zhh {mL:Int}{p_:TSPath}{r:Int}(h:Z6h p_=some r):CPure Tryz.prog (GG mL) 8 [(.agg (e_TSPath p_))] (I r):=by
 unfold Z6h at h
 obtain ⟨k,h⟩:=limF_some h
 exact Zhg k p_  r h
def Z87 (r:Int):AV→Heap→Nat→Prop:=fun v h' n' => v=(I r)∧(h' = e0)∧n' = 0
def Z31 (mL:Int) (recf:TSPath→Option Int):Prop:=∀(p_:TSPath) (r:Int),recf p_=some r→CPure Tryz.prog (GG mL) 16 [(.agg (e_TSPath p_))] (I r)
def a37_c0:ACode:=(sr [(oP 9 (.bin .lss (.tmp 8) (.tmp 7)))]
 (.seq (.cond (.tmp 9) .skip (.exit 0))
 (.seq (.block 1 (sr [(oP 10 (.iaddr 2 (.tmp 6) (.tmp 8))),(oP 11 (.load true 2 (.tmp 10))),(oP 5 (.box (.const (.agg [(.ro true 1 []),(.ro true 1 [])])))),(oN (.store 2 (.tmp 5) (.tmp 11)))]
 (.region [(mV 12 3),(oP 13 (.load true 2 (.tmp 5))),(oP 14 (.call 16 [(.tmp 13)])),(oP 15 (.mm true [(.tmp 12),(.tmp 14)])),(mV 3 15)])))
 (.region [(oP 16 (.bin .add (.tmp 8) (kI 1))),(mV 8 16)]))))
def a37:AFunc:=⟨1,[(.tmp 2)],(sr [(oP 2 (.mov (kI 0)))]
 (sr [(oP 3 (.mov (kI 0)))]
 (.seq (sr [(mV 6 0),(oP 7 (.len (.tmp 6))),(oP 8 (.mov (kI 0)))]
 (.block 0 (.loop a37_c0)))
 (sr [(mV 17 3),(mV 2 17)]
 .ret))))⟩
theorem c37:compFunc Tryz.prog 37=some a37:=by kernel_rfl
def Zc7 (r:Int):AV→Heap→Nat→Prop:=fun v h' n' => v=(I r)∧(h' = e0)∧n' = 0
abbrev Zhi (F_:Int→Option Int) (o:Int) (R_:St→Prop):Prop:=∀(n_1:Int),F_ n_1=some o→∀ s,Weak 0 s ⟨(upd e0 3 (some (I n_1))),e0,0⟩→R_ s
abbrev Zc8 (l_:(List Raw)) (F_:Nat→Int→Int→Option Int) (o:Int):Nat→St→Prop:=fun k s=>∃(n_:Int),∃(v8:Int),F_ k n_ v8=some o∧s=⟨(ue [(8,(I v8)),(7,(I (l_.length:Int))),(6,(.c (.ro false 2 (l_.map eRaw)))),(3,(I n_))]),e0,0⟩
abbrev Zhj (l_:(List Raw)) (F_:Int→Int→Option Int) (o:Int) (R_:St→Prop):Prop:=∀(n_:Int) (v8:Int),F_ n_ v8=some o→∀ s,Weak 0 s ⟨(ue [(8,(I v8)),(7,(I (l_.length:Int))),(6,(.c (.ro false 2 (l_.map eRaw)))),(3,(I n_))]),e0,0⟩→R_ s
noncomputable def Zw (l_:(List Raw)) (rec_weight_path:TSPath→Option Int) (K0_:Int→Option Int):Nat→Int→Int→Option Int
 | 0,_,_=>none
 | k+1,n_,v8 =>
  if decide (v8<(l_.length:Int)) then
   (at? l_ v8).bind fun r_ =>
   (Z3 r_.c).bind fun x_ =>
   (rec_weight_path x_).bind fun r_1 =>
   (Zw l_ rec_weight_path K0_ k) (mx n_ r_1) (wi (v8+1))
  else
   K0_ n_
theorem Zhk {mL:Int}{Q:AExit→St→Prop}{l_:(List Raw)}{rec_weight_path:TSPath→Option Int}{K0_:Int→Option Int}{k:Nat}{n_:Int}{v8:Int}{o:Int}(h:Zw l_ rec_weight_path K0_ k n_ v8=some o)
  (hK0:Zhi K0_ o (Q (.exit 0)))
  (hr:∀ s,Ends a37.results 0 (Zc7 o) .ret s→Q .ret s)
  (hrec_weight_path:Z31 mL rec_weight_path) :
  Sv Tryz.prog (GG mL) 0 (.loop a37_c0) Q ⟨(ue [(8,(I v8)),(7,(I (l_.length:Int))),(6,(.c (.ro false 2 (l_.map eRaw)))),(3,(I n_))]),e0,0⟩:=by
 refine Sv.loop (I:=Zc8 l_ (Zw l_ rec_weight_path K0_) o) (fun k s hI=>?_) ⟨n_,v8,h,rfl⟩
 clear h
 clear v8 n_
 obtain ⟨n_,v8,h,rfl⟩:=hI
 cases k with
 | zero=>cases h
 | succ k =>
 rw [Zw] at h
 have hself:Zhj l_ (Zw l_ rec_weight_path K0_ k) o (rnd 0 (Zc8 l_ (Zw l_ rec_weight_path K0_) o) k Q):=fun n_ v8 h s hw=>⟨_,k,hw,Nat.lt_succ_self k,n_,v8,h,rfl⟩
 refine ssr<|un1 (v:=(B (decide (v8<(l_.length:Int))))) rfl<|dnil<|Sv.seq ?_
 refine Sv.cnd rfl h (fun h=>?_) fun h=>?_
 ·refine Sv.skip<|Sv.seq<|Sv.block<|ssr ?_
  obtain ⟨r_,hr1,h⟩:=bnd h
  obtain ⟨x_,hd,h⟩:=bnd h
  have hx1:at? l_ v8=some (⟨e_TSPath x_,rfl⟩:Raw):=by rw [hr1,raw_eq rfl (Z18 hd)]
  refine un1 (v:=(.c (.rop (e_TSPath x_)))) (s_iaddr (e:=eRaw) (xs:=l_) rfl rfl hx1)<|un1 (v:=(.agg (e_TSPath x_))) rfl<|un<|a2v (v:=(.c (.ref 0 2 0 0))) (h' := upd _ 0 (some (.cells 2 [[.ro true 1 [],.ro true 1 []]]))) (n' := 1) rfl rfl hcs<|un<|a2n (h' := upd _ 0 (some (.cells 2 [(e_TSPath x_)]))) (n' := 1) rfl rfl hcs<|dnil<|srg<|un1 rfl<|un1 (v:=(.agg (e_TSPath x_))) rfl ?_
  obtain ⟨r_1,hr2,h⟩:=bnd h
  refine un<|ac_pure (hrec_weight_path x_ _ hr2) rfl rfl rfl<|un1 (v:=(I (mx n_ r_1))) (s_mx rfl rfl)<|un1 rfl<|dnil<|srg<|un1 (v:=(I (wi (v8+1)))) rfl<|un1 rfl<|dnil ?_
  exact hself (mx n_ r_1) (wi (v8+1)) h _ (wcn [] rfl (.cf rfl rfl (.cf rfl rfl (.cf rfl rfl (.cf rfl rfl .nil)))) .nil)
 ·refine Sv.exit ?_
  exact hK0 n_ h _ (wcn [] rfl (.cf rfl rfl .nil) .nil)
noncomputable def Z5e (rec_weight_path:TSPath→Option Int) (l_:(List Raw)):Option Int :=
 limF fun kk=>Zw l_ rec_weight_path (fun (n_1:Int) => 
   some n_1) kk 0 0
theorem Zhl {mL:Int}{rec_weight_path:TSPath→Option Int}(hrec_weight_path:Z31 mL rec_weight_path) {l_:(List Raw)}{r:Int}(h:Z5e rec_weight_path l_=some r):CPure Tryz.prog (GG mL) 37 [(.c (.ro false 2 (l_.map eRaw)))] (I r):=by
 refine acalls_of_sv hmix c37 (R:=Zc7 r) ?_
 unfold Z5e at h
 refine ssr<|un1 rfl<|dnil<|ssr<|un1 rfl<|dnil<|Sv.seq<|ssr<|un1 rfl<|un1 (v:=(I (l_.length:Int))) (s_len (e:=eRaw) (xs:=l_) rfl)<|un1 rfl<|dnil<|Sv.block ?_
 obtain ⟨kk,h⟩:=limF_some h
 refine Sv.weak (wcn [] rfl (.cf rfl rfl (.cf rfl rfl (.cf rfl rfl (.cf rfl rfl .nil)))) .nil) (Zhk h ?_ (fun s hs=>hs) hrec_weight_path)
 ·intro n_1 h _ hw1
  refine Sv.weak hw1<|ssr<|un1 rfl<|un1 rfl<|dnil<|Sv.ret ?_
  exact rt0 h rfl rfl ⟨rfl,rfl,rfl⟩
def a24_c0:ACode:=(.cond (.tmp 11) (sr [(oP 14 (.faddr 6 (.tmp 1))),(oP 15 (.load false 1 (.tmp 14))),(oP 16 (.call 37 [(.tmp 15)])),(mV 2 16)]
 .ret) .skip)
def a24_c1:ACode:=(sr [(oP 2 (.mov (kI 1000)))]
 .ret)
def a24:AFunc:=⟨1,[(.tmp 2)],(sr [(oP 1 (.box (.tmp 0))),(oP 2 (.mov (kI 0)))]
 (.seq (sr [(oP 3 (.faddr 0 (.tmp 1))),(oP 4 (.load false 1 (.tmp 3)))]
 (.block 0 (sr [(oP 6 (.bin .eql (.tmp 4) (kI 1))),(mV 5 6)]
 (.cond (.tmp 5) (sr [(oP 2 (.mov (kI 0)))]
 .ret) (sr [(oP 8 (.bin .eql (.tmp 4) (kI 2))),(mV 7 8)]
 (.cond (.tmp 7) (sr [(oP 2 (.mov (kI 1)))]
 .ret) (sr [(oP 10 (.bin .eql (.tmp 4) (kI 3))),(mV 9 10)]
 (.cond (.tmp 9) (sr [(oP 2 (.mov (kI 1000000)))]
 .ret) (.seq (sr [(oP 12 (.bin .eql (.tmp 4) (kI 10))),(mV 11 12)]
 (.cond (.tmp 11) .skip (.region [(oP 13 (.bin .eql (.tmp 4) (kI 11))),(mV 11 13)])))
 a24_c0)))))))))
 a24_c1))⟩
theorem c24:compFunc Tryz.prog 24=some a24:=by kernel_rfl
def Z88 (r:Int):AV→Heap→Nat→Prop:=fun v h' n' => v=(I r)∧(h' = e0)∧n' = 0
abbrev Zhm (mL:Int) (o:Int):AExit→St→Prop:=AThen (Sv Tryz.prog (GG mL) 0 a24_c1 (Ends a24.results 0 (Z88 o))) (Ends a24.results 0 (Z88 o))
abbrev Zhn (mL:Int) (o:Int):AExit→St→Prop:=ABlock 0 (Zhm mL o)
noncomputable def Z5f (rec_weight_path:TSPath→Option Int) (t_:TSTest) (v11:Bool):Option Int :=
 if v11 then
  (Z5e rec_weight_path t_.Subs).bind fun r_ =>
  some r_
 else
  some 1000
theorem Zc9 {mL:Int}{rec_weight_path:TSPath→Option Int}{t_:TSTest}{v11:Bool}{o:Int}(h:Z5f rec_weight_path t_ v11=some o)
  (hrec_weight_path:Z31 mL rec_weight_path) :
  Sv Tryz.prog (GG mL) 0 a24_c0 (Zhn mL o) ⟨(ue [(11,(B v11)),(1,(.c (.ref 0 7 0 0)))]),(upd e0 0 (some (.cells 7 [(e_TSTest t_)]))),1⟩:=by
 unfold Z5f at h
 refine Sv.cnd rfl h (fun h=>?_) fun h=>?_
 ·refine ssr<|un1 (v:=(.c (.ref 0 7 0 6))) rfl<|un1 (v:=(.c (.ro false 2 (t_.Subs.map eRaw)))) rfl ?_
  obtain ⟨r_,hr1,h⟩:=bnd h
  refine un<|ac_pure (Zhl hrec_weight_path hr1) rfl rfl rfl<|un1 rfl<|dnil<|Sv.ret ?_
  exact rt0 h rfl rfl ⟨rfl,rfl,rfl⟩
 ·refine Sv.skip<|ssr<|un1 rfl<|dnil<|Sv.ret ?_
  exact rt0 h rfl rfl ⟨rfl,rfl,rfl⟩
noncomputable def Z22 (rec_weight_path:TSPath→Option Int) (t_:TSTest):Option Int :=
 if decide (t_.Kind=1) then
  some 0
 else
  if decide (t_.Kind=2) then
   some 1
  else
   if decide (t_.Kind=3) then
    some 1000000
   else
    if decide (t_.Kind=10) then
     Z5f rec_weight_path t_ (decide (t_.Kind=10))
    else
     Z5f rec_weight_path t_ (decide (t_.Kind=11))
theorem Zho {mL:Int}{rec_weight_path:TSPath→Option Int}(hrec_weight_path:Z31 mL rec_weight_path) {t_:TSTest}{r:Int}(h:Z22 rec_weight_path t_=some r):CPure Tryz.prog (GG mL) 24 [(.agg (e_TSTest t_))] (I r):=by
 refine acalls_of_sv hmix c24 (R:=Z88 r) ?_
 unfold Z22 at h
 refine ssr<|un<|a2v (v:=(.c (.ref 0 7 0 0))) (h' := upd _ 0 (some (.cells 7 [(e_TSTest t_)]))) (n' := 1) rfl rfl hcs<|un1 rfl<|dnil<|Sv.seq<|ssr<|un1 (v:=(.c (.ref 0 7 0 0))) rfl<|un1 (v:=(I t_.Kind)) rfl<|dnil<|Sv.block<|ssr<|un1 (v:=(B (decide (t_.Kind=1)))) rfl<|un1 rfl<|dnil ?_
 refine Sv.cnd rfl h (fun h=>?_) fun h=>?_
 ·refine ssr<|un1 rfl<|dnil<|Sv.ret ?_
  exact rt0 h rfl rfl ⟨rfl,rfl,rfl⟩
 ·refine ssr<|un1 (v:=(B (decide (t_.Kind=2)))) rfl<|un1 rfl<|dnil ?_
  refine Sv.cnd rfl h (fun h=>?_) fun h=>?_
  ·refine ssr<|un1 rfl<|dnil<|Sv.ret ?_
   exact rt0 h rfl rfl ⟨rfl,rfl,rfl⟩
  ·refine ssr<|un1 (v:=(B (decide (t_.Kind=3)))) rfl<|un1 rfl<|dnil ?_
   refine Sv.cnd rfl h (fun h=>?_) fun h=>?_
   ·refine ssr<|un1 rfl<|dnil<|Sv.ret ?_
    exact rt0 h rfl rfl ⟨rfl,rfl,rfl⟩
   ·refine Sv.seq<|ssr<|un1 (v:=(B (decide (t_.Kind=10)))) rfl<|un1 rfl<|dnil ?_
    refine Sv.cnd rfl h (fun h=>?_) fun h=>?_
    ·refine Sv.skip ?_
     exact Sv.weak (wcn [0] rfl (.cf rfl rfl (.cr rfl rfl rfl .nil)) (.box (by decide) rfl (blkAs_cells (.sm rfl (.sm rfl (.sm rfl (.sm rfl (.sm rfl (.sm rfl (.sm rfl .nil)))))))) .nil)) (Zc9 h hrec_weight_path)
    ·refine srg<|un1 (v:=(B (decide (t_.Kind=11)))) rfl<|un1 rfl<|dnil ?_
     exact Sv.weak (wcn [0] rfl (.cf rfl rfl (.cr rfl rfl rfl .nil)) (.box (by decide) rfl (blkAs_cells (.sm rfl (.sm rfl (.sm rfl (.sm rfl (.sm rfl (.sm rfl (.sm rfl .nil)))))))) .nil)) (Zc9 h hrec_weight_path)
def a16_c0:ACode:=(sr [(oP 18 (.bin .lss (.tmp 17) (.tmp 16)))]
 (.seq (.cond (.tmp 18) .skip (.exit 2))
 (.seq (.block 3 (sr [(oP 19 (.iaddr 7 (.tmp 15) (.tmp 17))),(oP 20 (.load true 7 (.tmp 19))),(oP 7 (.box (.const (.agg [(.val (.int .i64 0)),(.str []),(.val (.int .u8 0)),(.str []),(.val (.int .i64 0)),(.val (.int .i64 0)),(.ro true 2 [])])))),(oN (.store 7 (.tmp 7) (.tmp 20)))]
 (.region [(mV 21 3),(oP 22 (.load true 7 (.tmp 7))),(oP 23 (.call 24 [(.tmp 22)])),(oP 24 (.bin .add (.tmp 21) (.tmp 23))),(mV 3 24)])))
 (.region [(oP 25 (.bin .add (.tmp 17) (kI 1))),(mV 17 25)]))))
def a16_c1:ACode:=(sr [(oP 12 (.bin .lss (.tmp 11) (.tmp 10)))]
 (.seq (.cond (.tmp 12) .skip (.exit 0))
 (.seq (.block 1 (sr [(oP 13 (.iaddr 1 (.tmp 9) (.tmp 11))),(oP 14 (.load false 1 (.tmp 13))),(mV 5 14)]
 (sr [(mV 15 5),(oP 16 (.len (.tmp 15))),(oP 17 (.mov (kI 0)))]
 (.block 2 (.loop a16_c0)))))
 (.region [(oP 26 (.bin .add (.tmp 11) (kI 1))),(mV 11 26)]))))
def a16:AFunc:=⟨1,[(.tmp 2)],(sr [(oP 1 (.box (.tmp 0))),(oP 2 (.mov (kI 0)))]
 (sr [(oP 3 (.mov (kI 0)))]
 (.seq (sr [(oP 8 (.faddr 0 (.tmp 1))),(oP 9 (.load false 1 (.tmp 8))),(oP 10 (.len (.tmp 9))),(oP 11 (.mov (kI 0)))]
 (.block 0 (.loop a16_c1)))
 (sr [(mV 27 3),(mV 2 27)]
 .ret))))⟩
theorem c16:compFunc Tryz.prog 16=some a16:=by kernel_rfl
abbrev Zhp (p_:TSPath) (v11:Int) (F_:Int→Option Int) (o:Int) (R_:St→Prop):Prop:=∀(n_3:Int),F_ n_3=some o→∀ s,Weak 0 s ⟨(ue [(11,(I v11)),(10,(I (p_.Steps.length:Int))),(9,(.c (.ro false 1 (p_.Steps.map (eSl 7 e_TSTest))))),(3,(I n_3))]),e0,0⟩→R_ s
abbrev Zca (p_:TSPath) (v11:Int) (x_:(List TSTest)) (F_:Nat→Int→Int→Option Int) (o:Int):Nat→St→Prop:=fun k s=>∃(n_2:Int),∃(v17:Int),F_ k n_2 v17=some o∧s=⟨(ue [(17,(I v17)),(16,(I (x_.length:Int))),(15,(.c (.ro false 7 (x_.map e_TSTest)))),(11,(I v11)),(10,(I (p_.Steps.length:Int))),(9,(.c (.ro false 1 (p_.Steps.map (eSl 7 e_TSTest))))),(3,(I n_2))]),e0,0⟩
abbrev Zhq (p_:TSPath) (v11:Int) (x_:(List TSTest)) (F_:Int→Int→Option Int) (o:Int) (R_:St→Prop):Prop:=∀(n_2:Int) (v17:Int),F_ n_2 v17=some o→∀ s,Weak 0 s ⟨(ue [(17,(I v17)),(16,(I (x_.length:Int))),(15,(.c (.ro false 7 (x_.map e_TSTest)))),(11,(I v11)),(10,(I (p_.Steps.length:Int))),(9,(.c (.ro false 1 (p_.Steps.map (eSl 7 e_TSTest))))),(3,(I n_2))]),e0,0⟩→R_ s
noncomputable def Zs (x_:(List TSTest)) (recf:TSPath→Option Int) (p_:TSPath) (v11:Int) (K2_:Int→Option Int):Nat→Int→Int→Option Int
 | 0,_,_=>none
 | k+1,n_2,v17 =>
  if decide (v17<(x_.length:Int)) then
   (at? x_ v17).bind fun x_1 =>
   (Z22 recf x_1).bind fun r_ =>
   (Zs x_ recf p_ v11 K2_ k) (wi (n_2+r_)) (wi (v17+1))
  else
   K2_ n_2
theorem Zhr {mL:Int}{Q:AExit→St→Prop}{x_:(List TSTest)}{recf:TSPath→Option Int}{p_:TSPath}{v11:Int}{K2_:Int→Option Int}{k:Nat}{n_2:Int}{v17:Int}{o:Int}(h:Zs x_ recf p_ v11 K2_ k n_2 v17=some o)
  (hK2:Zhp p_ v11 K2_ o (Q (.exit 2)))
  (hr:∀ s,Ends a16.results 0 (Z87 o) .ret s→Q .ret s)
  (hrec:Z31 mL recf) :
  Sv Tryz.prog (GG mL) 0 (.loop a16_c0) Q ⟨(ue [(17,(I v17)),(16,(I (x_.length:Int))),(15,(.c (.ro false 7 (x_.map e_TSTest)))),(11,(I v11)),(10,(I (p_.Steps.length:Int))),(9,(.c (.ro false 1 (p_.Steps.map (eSl 7 e_TSTest))))),(3,(I n_2))]),e0,0⟩:=by
 refine Sv.loop (I:=Zca p_ v11 x_ (Zs x_ recf p_ v11 K2_) o) (fun k s hI=>?_) ⟨n_2,v17,h,rfl⟩
 clear h
 clear v17 n_2
 obtain ⟨n_2,v17,h,rfl⟩:=hI
 cases k with
 | zero=>cases h
 | succ k =>
 rw [Zs] at h
 have hself:Zhq p_ v11 x_ (Zs x_ recf p_ v11 K2_ k) o (rnd 0 (Zca p_ v11 x_ (Zs x_ recf p_ v11 K2_) o) k Q):=fun n_2 v17 h s hw=>⟨_,k,hw,Nat.lt_succ_self k,n_2,v17,h,rfl⟩
 refine ssr<|un1 (v:=(B (decide (v17<(x_.length:Int))))) rfl<|dnil<|Sv.seq ?_
 refine Sv.cnd rfl h (fun h=>?_) fun h=>?_
 ·refine Sv.skip<|Sv.seq<|Sv.block<|ssr ?_
  obtain ⟨x_1,hx2,h⟩:=bnd h
  refine un1 (v:=(.c (.rop (e_TSTest x_1)))) (s_iaddr (e:=e_TSTest) (xs:=x_) rfl rfl hx2)<|un1 (v:=(.agg (e_TSTest x_1))) rfl<|un<|a2v (v:=(.c (.ref 0 7 0 0))) (h' := upd _ 0 (some (.cells 7 [[cI 0,.str [],.val (.int .u8 0),.str [],cI 0,cI 0,.ro true 2 []]]))) (n' := 1) rfl rfl hcs<|un<|a2n (h' := upd _ 0 (some (.cells 7 [(e_TSTest x_1)]))) (n' := 1) rfl rfl hcs<|dnil<|srg<|un1 rfl<|un1 (v:=(.agg (e_TSTest x_1))) rfl ?_
  obtain ⟨r_,hr1,h⟩:=bnd h
  refine un<|ac_pure (Zho hrec hr1) rfl rfl rfl<|un1 (v:=(I (wi (n_2+r_)))) rfl<|un1 rfl<|dnil<|srg<|un1 (v:=(I (wi (v17+1)))) rfl<|un1 rfl<|dnil ?_
  exact hself (wi (n_2+r_)) (wi (v17+1)) h _ (wcn [] rfl (.cf rfl rfl (.cf rfl rfl (.cf rfl rfl (.cf rfl rfl (.cf rfl rfl (.cf rfl rfl (.cf rfl rfl .nil))))))) .nil)
 ·refine Sv.exit ?_
  exact hK2 n_2 h _ (wcn [] rfl (.cf rfl rfl (.cf rfl rfl (.cf rfl rfl (.cf rfl rfl .nil)))) .nil)
abbrev Zhs (F_:Int→Option Int) (o:Int) (R_:St→Prop):Prop:=∀(n_1:Int),F_ n_1=some o→∀ s,Weak 0 s ⟨(upd e0 3 (some (I n_1))),e0,0⟩→R_ s
abbrev Zcb (p_:TSPath) (F_:Nat→Int→Int→Option Int) (o:Int):Nat→St→Prop:=fun k s=>∃(n_:Int),∃(v11:Int),F_ k n_ v11=some o∧s=⟨(ue [(11,(I v11)),(10,(I (p_.Steps.length:Int))),(9,(.c (.ro false 1 (p_.Steps.map (eSl 7 e_TSTest))))),(3,(I n_))]),e0,0⟩
abbrev Zht (p_:TSPath) (F_:Int→Int→Option Int) (o:Int) (R_:St→Prop):Prop:=∀(n_:Int) (v11:Int),F_ n_ v11=some o→∀ s,Weak 0 s ⟨(ue [(11,(I v11)),(10,(I (p_.Steps.length:Int))),(9,(.c (.ro false 1 (p_.Steps.map (eSl 7 e_TSTest))))),(3,(I n_))]),e0,0⟩→R_ s
noncomputable def Zt (p_:TSPath) (recf:TSPath→Option Int) (K0_:Int→Option Int):Nat→Int→Int→Option Int
 | 0,_,_=>none
 | k+1,n_,v11 =>
  if decide (v11<(p_.Steps.length:Int)) then
   (at? p_.Steps v11).bind fun x_ =>
   limF fun kk=>Zs x_ recf p_ v11 (fun (n_3:Int) => 
     (Zt p_ recf K0_ k) n_3 (wi (v11+1))) kk n_ 0
  else
   K0_ n_
theorem Zhu {mL:Int}{Q:AExit→St→Prop}{p_:TSPath}{recf:TSPath→Option Int}{K0_:Int→Option Int}{k:Nat}{n_:Int}{v11:Int}{o:Int}(h:Zt p_ recf K0_ k n_ v11=some o)
  (hK0:Zhs K0_ o (Q (.exit 0)))
  (hr:∀ s,Ends a16.results 0 (Z87 o) .ret s→Q .ret s)
  (hrec:Z31 mL recf) :
  Sv Tryz.prog (GG mL) 0 (.loop a16_c1) Q ⟨(ue [(11,(I v11)),(10,(I (p_.Steps.length:Int))),(9,(.c (.ro false 1 (p_.Steps.map (eSl 7 e_TSTest))))),(3,(I n_))]),e0,0⟩:=by
 refine Sv.loop (I:=Zcb p_ (Zt p_ recf K0_) o) (fun k s hI=>?_) ⟨n_,v11,h,rfl⟩
 clear h
 clear v11 n_
 obtain ⟨n_,v11,h,rfl⟩:=hI
 cases k with
 | zero=>cases h
 | succ k =>
 rw [Zt] at h
 have hself:Zht p_ (Zt p_ recf K0_ k) o (rnd 0 (Zcb p_ (Zt p_ recf K0_) o) k Q):=fun n_ v11 h s hw=>⟨_,k,hw,Nat.lt_succ_self k,n_,v11,h,rfl⟩
 refine ssr<|un1 (v:=(B (decide (v11<(p_.Steps.length:Int))))) rfl<|dnil<|Sv.seq ?_
 refine Sv.cnd rfl h (fun h=>?_) fun h=>?_
 ·refine Sv.skip<|Sv.seq<|Sv.block<|ssr ?_
  obtain ⟨x_,hx1,h⟩:=bnd h
  refine un1 (v:=(.c (.rop [.ro false 7 (x_.map e_TSTest)]))) (s_iaddr (e:=(eSl 7 e_TSTest)) (xs:=p_.Steps) rfl rfl hx1)<|un1 (v:=(.c (.ro false 7 (x_.map e_TSTest)))) rfl<|un1 rfl<|dnil<|ssr<|un1 rfl<|un1 (v:=(I (x_.length:Int))) (s_len (e:=e_TSTest) (xs:=x_) rfl)<|un1 rfl<|dnil<|Sv.block ?_
  obtain ⟨kk,h⟩:=limF_some h
  refine Sv.weak (wcn [] rfl (.cf rfl rfl (.cf rfl rfl (.cf rfl rfl (.cf rfl rfl (.cf rfl rfl (.cf rfl rfl (.cf rfl rfl .nil))))))) .nil) (Zhr h ?_ hr hrec)
  ·intro n_3 h _ hw1
   refine Sv.weak hw1<|srg<|un1 (v:=(I (wi (v11+1)))) rfl<|un1 rfl<|dnil ?_
   exact hself n_3 (wi (v11+1)) h _ (wcn [] rfl (.cf rfl rfl (.cf rfl rfl (.cf rfl rfl (.cf rfl rfl .nil)))) .nil)
 ·refine Sv.exit ?_
  exact hK0 n_ h _ (wcn [] rfl (.cf rfl rfl .nil) .nil)
noncomputable def Z17:Nat→TSPath→Option Int
 | 0,_=>none
 | k+1,p_ =>
  limF fun kk1=>Zt p_ (Z17 k) (fun (n_1:Int) => 
    some n_1) kk1 0 0
noncomputable def Z6i (p_:TSPath):Option Int :=
 limF fun kr=>Z17 kr p_
theorem Zhv {mL:Int}(k:Nat):Z31 mL (Z17 k):=by
 induction k with
 | zero=>intro p_ r h; cases h
 | succ k hrec =>
 intro p_ r h
 refine acalls_of_sv hmix c16 (R:=Z87 r) ?_
 rw [Z17] at h
 refine ssr<|un<|a2v (v:=(.c (.ref 0 2 0 0))) (h' := upd _ 0 (some (.cells 2 [(e_TSPath p_)]))) (n' := 1) rfl rfl hcs<|un1 rfl<|dnil<|ssr<|un1 rfl<|dnil<|Sv.seq<|ssr<|un1 (v:=(.c (.ref 0 2 0 0))) rfl<|un1 (v:=(.c (.ro false 1 (p_.Steps.map (eSl 7 e_TSTest))))) rfl<|un1 (v:=(I (p_.Steps.length:Int))) (s_len (e:=(eSl 7 e_TSTest)) (xs:=p_.Steps) rfl)<|un1 rfl<|dnil<|Sv.block ?_
 obtain ⟨kk1,h⟩:=limF_some h
 refine Sv.weak (wcn [] rfl (.cf rfl rfl (.cf rfl rfl (.cf rfl rfl (.cf rfl rfl .nil)))) .nil) (Zhu h ?_ (fun s hs=>hs) hrec)
 ·intro n_1 h _ hw2
  refine Sv.weak hw2<|ssr<|un1 rfl<|un1 rfl<|dnil<|Sv.ret ?_
  exact rt0 h rfl rfl ⟨rfl,rfl,rfl⟩
theorem Zhw {mL:Int}{p_:TSPath}{r:Int}(h:Z6i p_=some r):CPure Tryz.prog (GG mL) 16 [(.agg (e_TSPath p_))] (I r):=by
 unfold Z6i at h
 obtain ⟨k,h⟩:=limF_some h
 exact Zhv k p_  r h
def a9:AFunc:=⟨1,[(.tmp 2)],(sr [(oP 1 (.box (.tmp 0))),(oP 2 (.mov (kI 0)))]
 (.seq (sr [(oP 3 (.load true 2 (.tmp 1))),(oP 4 (.bslice 2 [(.ro true 1 []),(.ro true 1 [])] 1 [(0,(.tmp 3))])),(oP 5 (.call 6 [(.tmp 4)])),(oP 6 (.bin .neq (.tmp 5) (kI 0)))]
 (.cond (.tmp 6) (sr [(oP 2 (.mov (kI 0)))]
 .ret) .skip))
 (sr [(oP 7 (.load true 2 (.tmp 1))),(oP 8 (.call 16 [(.tmp 7)])),(mV 2 8)]
 .ret)))⟩
theorem c9:compFunc Tryz.prog 9=some a9:=by kernel_rfl
def Zhx (r:Int):AV→Heap→Nat→Prop:=fun v h' n' => v=(I r)∧(h' = e0)∧n' = 0
noncomputable def Z6j (p_:TSPath):Option Int :=
 (Z3q [(⟨e_TSPath p_,rfl⟩:Raw)]).bind fun r_ =>
 if (!decide (r_=0)) then
  some 0
 else
  (Z6i p_).bind fun r_1 =>
  some r_1
theorem Zhy {mL:Int}{p_:TSPath}{r:Int}(h:Z6j p_=some r):CPure Tryz.prog (GG mL) 9 [(.agg (e_TSPath p_))] (I r):=by
 refine acalls_of_sv hmix c9 (R:=Zhx r) ?_
 unfold Z6j at h
 refine ssr<|un<|a2v (v:=(.c (.ref 0 2 0 0))) (h' := upd _ 0 (some (.cells 2 [(e_TSPath p_)]))) (n' := 1) rfl rfl hcs<|un1 rfl<|dnil<|Sv.seq<|ssr<|un1 (v:=(.agg (e_TSPath p_))) rfl<|un<|a2v (v:=(lstV false 1 2 [(⟨e_TSPath p_,rfl⟩:Raw)].length)) (h' := upd _ 1 (lstB false 2 ([(⟨e_TSPath p_,rfl⟩:Raw)].map eRaw))) (n' := 2) rfl rfl hcs ?_
 obtain ⟨r_,hr1,h⟩:=bnd h
 refine un<|ac_lend (h2:=(upd _ 1 none)) (Zaf hr1) rfl (.cons (.c (lstC_ro (es:=List.map eRaw [(⟨e_TSPath p_,rfl⟩:Raw)]) rfl (List.length_map eRaw).symm (map_nil_of hcs) (gone rfl) (fr_map fr_raw))) .nil) (hsub_none (hsub_refl _)) rfl rfl (.inr rfl)<|un1 (v:=(B (!decide (r_=0)))) rfl<|dnil ?_
 refine Sv.cnd rfl h (fun h=>?_) fun h=>?_
 ·refine ssr<|un1 rfl<|dnil<|Sv.ret ?_
  exact rt0 h rfl rfl ⟨rfl,rfl,rfl⟩
 ·refine Sv.skip<|ssr<|un1 (v:=(.agg (e_TSPath p_))) rfl ?_
  obtain ⟨r_1,hr2,h⟩:=bnd h
  refine un<|ac_pure (Zhw hr2) rfl rfl rfl<|un1 rfl<|dnil<|Sv.ret ?_
  exact rt0 h rfl rfl ⟨rfl,rfl,rfl⟩
def a4_c1:ACode:=.ret
def a4_c0:ACode:=(sr [(mV 12 3),(mV 13 12),⟨(some 14),(.load true 2 (.tmp 1)),(some (13,true))⟩,⟨(some 15),(.call 9 [(.tmp 14)]),(some (13,true))⟩,⟨(some 16),(.mov (.tmp 4)),(some (13,true))⟩,⟨(some 17),(.bin .eql (.tmp 15) (.tmp 16)),(some (13,true))⟩,(oP 18 (.pick (.tmp 13) (.tmp 17) kF)),(mV 2 18)]
 a4_c1)
def a4:AFunc:=⟨1,[(.tmp 2)],(sr [(oP 1 (.box (.tmp 0))),(oP 2 (.mov kF))]
 (sr [(oP 5 (.call 5 [])),(mV 3 5)]
 (sr [(oP 4 (.mov (kI 0)))]
 (.seq (sr [(oP 6 (.load true 2 (.tmp 1))),(oP 7 (.bslice 2 [(.ro true 1 []),(.ro true 1 [])] 1 [(0,(.tmp 6))])),(oP 8 (.call 7 [(.tmp 7)])),(oP 9 (.bin .eql (.tmp 8) (kI 0)))]
 (.cond (.tmp 9) (.region [(oP 10 (.load true 2 (.tmp 1))),(oP 11 (.call 8 [(.tmp 10)])),(mV 4 11)]) .skip))
 a4_c0))))⟩
theorem c4:compFunc Tryz.prog 4=some a4:=by kernel_rfl
def Z89 (r:Bool):AV→Heap→Nat→Prop:=fun v h' n' => v=(B r)∧(h' = e0)∧n' = 0
noncomputable def Z5g (v2:Bool):Option Bool :=
 some v2
theorem Zcc {mL:Int}{v2:Bool}{o:Bool}(h:Z5g v2=some o) :
  Sv Tryz.prog (GG mL) 0 a4_c1 (Ends a4.results 0 (Z89 o)) ⟨(upd e0 2 (some (B v2))),e0,0⟩:=by
 unfold Z5g at h
 refine Sv.ret ?_
 exact rt0 h rfl rfl ⟨rfl,rfl,rfl⟩
noncomputable def Z5h (r_:Bool) (p_:TSPath) (want:Int):Option Bool :=
 if r_ then
  (Z6j p_).bind fun r_1 =>
  Z5g (decide (r_1=want))
 else
  Z5g false
theorem Zcd {mL:Int}{r_:Bool}{p_:TSPath}{want:Int}{o:Bool}(h:Z5h r_ p_ want=some o) :
  Sv Tryz.prog (GG mL) 0 a4_c0 (Ends a4.results 0 (Z89 o)) ⟨(ue [(4,(I want)),(3,(B r_)),(1,(.c (.ref 0 2 0 0)))]),(upd e0 0 (some (.cells 2 [(e_TSPath p_)]))),1⟩:=by
 unfold Z5h at h
 refine ssr<|un1 rfl<|un1 rfl ?_
 refine spl h (fun h=>?_) fun h=>?_
 ·refine gt rfl<|a1 (v:=(.agg (e_TSPath p_))) rfl ?_
  obtain ⟨r_1,hr2,h⟩:=bnd h
  refine gt rfl<|ac_pure (Zhy hr2) rfl rfl rfl<|gt rfl<|a1 rfl<|gt rfl<|a1 (v:=(B (decide (r_1=want)))) rfl<|un1 (v:=(B (decide (r_1=want)))) rfl<|un1 rfl<|dnil ?_
  exact Sv.weak (wcn [] rfl (.cf rfl rfl .nil) .nil) (Zcc h)
 ·refine gs rfl rfl<|gs rfl rfl<|gs rfl rfl<|gs rfl rfl<|un1 (v:=(B false)) rfl<|un1 rfl<|dnil ?_
  exact Sv.weak (wcn [] rfl (.cf rfl rfl .nil) .nil) (Zcc h)
noncomputable def Z6k (p_:TSPath):Option Bool :=
 (Z65).bind fun r_ =>
 (Z5c [(⟨e_TSPath p_,rfl⟩:Raw)]).bind fun r_2 =>
 if decide (r_2=0) then
  (Z6h p_).bind fun r_3 =>
  Z5h r_ p_ r_3
 else
  Z5h r_ p_ 0
theorem Zhz {mL:Int}{p_:TSPath}{r:Bool}(h:Z6k p_=some r):CPure Tryz.prog (GG mL) 4 [(.agg (e_TSPath p_))] (B r):=by
 refine acalls_of_sv hmix c4 (R:=Z89 r) ?_
 unfold Z6k at h
 refine ssr<|un<|a2v (v:=(.c (.ref 0 2 0 0))) (h' := upd _ 0 (some (.cells 2 [(e_TSPath p_)]))) (n' := 1) rfl rfl hcs<|un1 rfl<|dnil<|ssr ?_
 obtain ⟨r_,hr1,h⟩:=bnd h
 refine un<|ac_pure (Zf6 hr1) rfl rfl rfl<|un1 rfl<|dnil<|ssr<|un1 rfl<|dnil<|Sv.seq<|ssr<|un1 (v:=(.agg (e_TSPath p_))) rfl<|un<|a2v (v:=(lstV false 1 2 [(⟨e_TSPath p_,rfl⟩:Raw)].length)) (h' := upd _ 1 (lstB false 2 ([(⟨e_TSPath p_,rfl⟩:Raw)].map eRaw))) (n' := 2) rfl rfl hcs ?_
 obtain ⟨r_2,hr3,h⟩:=bnd h
 refine un<|ac_lend (h2:=(upd _ 1 none)) (Zh5 hr3) rfl (.cons (.c (lstC_ro (es:=List.map eRaw [(⟨e_TSPath p_,rfl⟩:Raw)]) rfl (List.length_map eRaw).symm (map_nil_of hcs) (gone rfl) (fr_map fr_raw))) .nil) (hsub_none (hsub_refl _)) rfl rfl (.inr rfl)<|un1 (v:=(B (decide (r_2=0)))) rfl<|dnil ?_
 refine Sv.cnd rfl h (fun h=>?_) fun h=>?_
 ·refine srg<|un1 (v:=(.agg (e_TSPath p_))) rfl ?_
  obtain ⟨r_3,hr4,h⟩:=bnd h
  refine un<|ac_pure (Zhh hr4) rfl rfl rfl<|un1 rfl<|dnil ?_
  exact Sv.weak (wcn [0] rfl (.cf rfl rfl (.cf rfl rfl (.cr rfl rfl rfl .nil))) (.box (by decide) rfl (blkAs_cells (.sm rfl (.sm rfl .nil))) .nil)) (Zcd h)
 ·refine Sv.skip ?_
  exact Sv.weak (wcn [0] rfl (.cf rfl rfl (.cf rfl rfl (.cr rfl rfl rfl .nil))) (.box (by decide) rfl (blkAs_cells (.sm rfl (.sm rfl .nil))) .nil)) (Zcd h)
end Go.Proofs.YtnfgjdbajefoiaaGreatDoorBv
