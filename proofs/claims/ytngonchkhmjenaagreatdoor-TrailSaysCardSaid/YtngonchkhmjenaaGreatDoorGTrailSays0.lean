/- Printed by a program of mine (bgen.py): plain functions, and the walks that show that the code comes to what they answer. -/
import Derived.Test.YtngonchkhmjenaaGreatDoorRows
import Derived.Test.YtngonchkhmjenaaGreatDoorBv40
import Derived.Test.YtngonchkhmjenaaGreatDoorBv35
import Derived.Test.YtngonchkhmjenaaGreatDoorBv30
import Derived.Test.YtngonchkhmjenaaGreatDoorShelf
import Derived.Test.YtngonchkhmjenaaGreatDoorBld
import Derived.Test.YtngonchkhmjenaaGreatDoorBv36
import Derived.Test.YtngonchkhmjenaaGreatDoorBv37
import Derived.Test.YtngonchkhmjenaaGreatDoorBv39
import Derived.Test.YtngonchkhmjenaaGreatDoorBv33
import Derived.Test.YtngonchkhmjenaaGreatDoorBv46
import Derived.Test.YtngonchkhmjenaaGreatDoorBv42
import Derived.Test.YtngonchkhmjenaaGreatDoorBv48
import Derived.Test.YtngonchkhmjenaaGreatDoorGrow
namespace Go.Proofs.YtngonchkhmjenaaGreatDoorBv
open Go
set_option linter.unusedVariables false
set_option linter.unusedSimpArgs false
set_option maxRecDepth 100000
theorem hmix:Tryz.prog.follows .mixedOrders=true:=by kernel_rfl
structure TJEntry where
 Url:Tx
 State:Tx
 Doc:Int
def e_TJEntry (x:TJEntry):List Cel:=[.str x.Url,.str x.State,cI x.Doc]
structure TJTrail where
 Entries:(List TJEntry)
 At:Int
def e_TJTrail (x:TJTrail):List Cel:=[.ro false 3 (x.Entries.map e_TJEntry),cI x.At]
structure TJUrl where
 Scheme:Tx
 Host:Tx
 Port:Int
 Path:TT
 Query:Tx
 Asks:Bool
 Fragment:Tx
 Points:Bool
structure Tunit where
 f_c:Int
 f_triple:Bool
def e_Tunit (x:Tunit):List Cel:=[.val (.int .u8 x.f_c),cB x.f_triple]
def g1_c:List Cel:=[1,10,100,1000,10000,100000,1000000,10000000,100000000,1000000000,10000000000,100000000000,1000000000000,10000000000000,100000000000000,1000000000000000,10000000000000000,100000000000000000,1000000000000000000,10000000000000000000].map fun n=>.val (.int .u64 n)
def g2_c:List Cel:=[.opq]
def g3_c:List Cel:=[.opq]
def g4_c:List Cel:=[240,240,240,240,240,240,240,240,240,240,240,240,240,240,240,240,240,240,240,240,240,240,240,240,240,240,240,240,240,240,240,240,240,240,240,240,240,240,240,240,240,240,240,240,240,240,240,240,240,240,240,240,240,240,240,240,240,240,240,240,240,240,240,240,240,240,240,240,240,240,240,240,240,240,240,240,240,240,240,240,240,240,240,240,240,240,240,240,240,240,240,240,240,240,240,240,240,240,240,240,240,240,240,240,240,240,240,240,240,240,240,240,240,240,240,240,240,240,240,240,240,240,240,240,240,240,240,240,241,241,241,241,241,241,241,241,241,241,241,241,241,241,241,241,241,241,241,241,241,241,241,241,241,241,241,241,241,241,241,241,241,241,241,241,241,241,241,241,241,241,241,241,241,241,241,241,241,241,241,241,241,241,241,241,241,241,241,241,241,241,241,241,241,241,2,2,2,2,2,2,2,2,2,2,2,2,2,2,2,2,2,2,2,2,2,2,2,2,2,2,2,2,2,2,19,3,3,3,3,3,3,3,3,3,3,3,3,35,3,3,52,4,4,4,68,241,241,241,241,241,241,241,241,241,241,241].map fun n=>.val (.int .u8 n)
def g5_c:List Cel:=[128,191,160,191,128,159,144,191,128,143,0,0,0,0,0,0,0,0,0,0,0,0,0,0,0,0,0,0,0,0,0,0].map fun n=>.val (.int .u8 n)
def g7_c:List Cel:=[0,1,28,2,29,14,24,3,30,22,20,15,25,17,4,8,31,27,13,23,21,19,16,7,26,12,18,6,11,5,10,9].map fun n=>.val (.int .u8 n)
def g8_c:List Cel:=[0,1,56,2,57,49,28,3,61,58,42,50,38,29,17,4,62,47,59,36,45,43,51,22,53,39,33,30,24,18,12,5,63,55,48,27,60,41,37,16,46,35,44,21,52,32,23,11,54,26,40,15,34,20,31,10,25,14,19,9,13,8,7,6].map fun n=>.val (.int .u8 n)
def GG (mL:Int):Glob:=fun g=>if g=0 then [.val (.int .i64 mL)] else if g=1 then g1_c else if g=2 then g2_c else if g=3 then g3_c else if g=4 then g4_c else if g=5 then g5_c else if g=7 then g7_c else if g=8 then g8_c else []
def a90:AFunc:=⟨1,[(.tmp 2)],(sr [(oP 2 (.mov (.const (.c (.val (.int .i32 0))))))]
 (.seq (sr [(mV 3 0),(oP 4 (.bin .geq (.tmp 3) (.const (.c (.val (.int .i32 65)))))),(mV 5 4),⟨(some 6),(.mov (.tmp 0)),(some (5,true))⟩,⟨(some 7),(.bin .leq (.tmp 6) (.const (.c (.val (.int .i32 90))))),(some (5,true))⟩,(oP 8 (.pick (.tmp 5) (.tmp 7) kF))]
 (.cond (.tmp 8) (sr [(mV 9 0),(oP 10 (.bin .add (.tmp 9) (.const (.c (.val (.int .i32 97)))))),(oP 11 (.bin .sub (.tmp 10) (.const (.c (.val (.int .i32 65)))))),(mV 2 11)]
 .ret) .skip))
 (sr [(mV 12 0),(mV 2 12)]
 .ret)))⟩
theorem c90:compFunc Tryz.prog 90=some a90:=by kernel_rfl
def Zbo (r:Int):AV→Heap→Nat→Prop:=fun v h' n' => v=(.c (.val (.int .i32 r)))∧(h' = e0)∧n' = 0
def Z5 (r_:Int):Int :=
 if ((decide (65≤r_))&&(decide (r_≤90))) then
  (wr .i32 ((wr .i32 (r_+97)) - 65))
 else
  r_
theorem Zbp {mL:Int}(r_:Int):CPure Tryz.prog (GG mL) 90 [(.c (.val (.int .i32 r_)))] (.c (.val (.int .i32 (Z5 r_)))):=by
 generalize h:Z5 r_=o
 refine acalls_of_sv hmix c90 (R:=Zbo o) ?_
 unfold Z5 at h
 refine ssr<|un1 rfl<|dnil<|Sv.seq<|ssr<|un1 rfl<|un1 (v:=(B (decide (65≤r_)))) rfl<|un1 rfl ?_
 refine gjoin 3 (d:=8) (v:=(B ((decide (65≤r_))&&(decide (r_≤90))))) (fun X hX=>?_) ?_
 ·refine split2 (fun hc1=>?_) (fun hc1=>?_)
  ·refine gt rfl<|a1 rfl<|gt rfl<|a1 (v:=(B (decide (r_≤90)))) rfl<|un1 (v:=(B (decide (r_≤90)))) rfl<|dnil ?_
   exact hX _ (.putEq (by rw [hc1]; rfl) (.skp (.skp (.putEq (by rw [hc1]) (.refl _)) rfl) rfl))
  ·refine gs rfl rfl<|gs rfl rfl<|un1 (v:=(B false)) rfl<|dnil ?_
   exact hX _ (.putEq (by rw [hc1]; rfl) (.skp (.skp (.putEq (by rw [hc1]) (.refl _)) rfl) rfl))
 refine dnil ?_
 refine Sv.cnd rfl h (fun h=>?_) fun h=>?_
 ·refine ssr<|un1 rfl<|un1 (v:=(.c (.val (.int .i32 (wr .i32 (r_+97)))))) rfl<|un1 (v:=(.c (.val (.int .i32 (wr .i32 ((wr .i32 (r_+97)) - 65)))))) rfl<|un1 rfl<|dnil<|Sv.ret ?_
  subst h
  exact ⟨_,.refl _,_,rfl,⟨upd e0 0 (some (.c (.val (.int .i32 (wr .i32 ((wr .i32 (r_+97)) - 65)))))),e0,0⟩,(.c (.val (.int .i32 (wr .i32 ((wr .i32 (r_+97)) - 65))))),weak_canon [] rfl ndl nll nlz (.cf rfl rfl .nil) .nil,rfl,rfl,rfl,rfl⟩
 ·refine Sv.skip<|ssr<|un1 rfl<|un1 rfl<|dnil<|Sv.ret ?_
  subst h
  exact ⟨_,.refl _,_,rfl,⟨upd e0 0 (some (.c (.val (.int .i32 r_)))),e0,0⟩,(.c (.val (.int .i32 r_))),weak_canon [] rfl ndl nll nlz (.cf rfl rfl .nil) .nil,rfl,rfl,rfl,rfl⟩
noncomputable abbrev Z7h (s_:List UInt8):Option Tx:=smap? Z5 s_
theorem Zbq {mL:Int}{s_ r:List UInt8}(h:Z7h s_=some r):CPure Tryz.prog (GG mL) 89 [.c (.fn (.func 90) [] []),S s_] (S r):=map_ok Tryz.lays230 Tryz.Builder_Extra_230 (enters_of Tryz.func90 (by kernel_rfl) rfl) (by kernel_rfl) (by kernel_rfl) (fun x=>Zbp x) h
def a63:AFunc:=⟨1,[(.tmp 2)],(sr [(oP 2 (.mov (.const (.c (.str [])))))]
 (sr [(mV 3 0),(oP 4 (.call 89 [(.const (.c (.fn (.func 90) [] []))),(.tmp 3)])),(mV 2 4)]
 .ret))⟩
theorem c63:compFunc Tryz.prog 63=some a63:=by kernel_rfl
def Zbr (r:Tx):AV→Heap→Nat→Prop:=fun v h' n' => v=(S r)∧(h' = e0)∧n' = 0
noncomputable def Z28 (s_:Tx):Option Tx :=
 (Z7h s_).bind fun r_ =>
 some r_
theorem Z7i {mL:Int}{s_:Tx}{r:Tx}(h:Z28 s_=some r):CPure Tryz.prog (GG mL) 63 [(S s_)] (S r):=by
 refine acalls_of_sv hmix c63 (R:=Zbr r) ?_
 unfold Z28 at h
 refine ssr<|un1 rfl<|dnil<|ssr<|un1 rfl ?_
 obtain ⟨r_,hr1,h⟩:=bnd h
 refine un<|ac_pure (Zbq hr1) rfl rfl rfl<|un1 rfl<|dnil<|Sv.ret ?_
 exact rt0 h rfl rfl ⟨rfl,rfl,rfl⟩
def a64:AFunc:=⟨1,[(.tmp 2)],(sr [(oP 2 (.mov kF))]
 (sr [(mV 3 0),(oP 4 (.bin .geq (.tmp 3) (.const (.c (.val (.int .u8 97)))))),(mV 5 4),⟨(some 6),(.mov (.tmp 0)),(some (5,true))⟩,⟨(some 7),(.bin .leq (.tmp 6) (.const (.c (.val (.int .u8 122))))),(some (5,true))⟩,(oP 8 (.pick (.tmp 5) (.tmp 7) kF)),(mV 9 8),⟨(some 10),(.mov (.tmp 0)),(some (9,false))⟩,⟨(some 11),(.bin .geq (.tmp 10) (.const (.c (.val (.int .u8 65))))),(some (9,false))⟩,⟨(some 12),(.mov (.tmp 11)),(some (9,false))⟩,⟨(some 13),(.mov (.tmp 0)),(some (12,true))⟩,⟨(some 14),(.bin .leq (.tmp 13) (.const (.c (.val (.int .u8 90))))),(some (12,true))⟩,⟨(some 15),(.pick (.tmp 12) (.tmp 14) kF),(some (9,false))⟩,(oP 16 (.pick (.tmp 9) kT (.tmp 15))),(mV 2 16)]
 .ret))⟩
theorem c64:compFunc Tryz.prog 64=some a64:=by kernel_rfl
def Zbs (r:Bool):AV→Heap→Nat→Prop:=fun v h' n' => v=(B r)∧(h' = e0)∧n' = 0
def Z1l (c_:Int):Bool :=
 (((decide (97≤c_))&&(decide (c_≤122)))||((decide (65≤c_))&&(decide (c_≤90))))
theorem Z7j {mL:Int}(c_:Int):CPure Tryz.prog (GG mL) 64 [(.c (.val (.int .u8 c_)))] (B (Z1l c_)):=by
 generalize h:Z1l c_=o
 refine acalls_of_sv hmix c64 (R:=Zbs o) ?_
 unfold Z1l at h
 refine ssr<|un1 rfl<|dnil<|ssr<|un1 rfl<|un1 (v:=(B (decide (97≤c_)))) rfl<|un1 rfl ?_
 refine gjoin 3 (d:=8) (v:=(B ((decide (97≤c_))&&(decide (c_≤122))))) (fun X hX=>?_) ?_
 ·refine split2 (fun hc1=>?_) (fun hc1=>?_)
  ·refine gt rfl<|a1 rfl<|gt rfl<|a1 (v:=(B (decide (c_≤122)))) rfl<|un1 (v:=(B (decide (c_≤122)))) rfl<|dnil ?_
   exact hX _ (.putEq (by rw [hc1]; rfl) (.skp (.skp (.putEq (by rw [hc1]) (.refl _)) rfl) rfl))
  ·refine gs rfl rfl<|gs rfl rfl<|un1 (v:=(B false)) rfl<|dnil ?_
   exact hX _ (.putEq (by rw [hc1]; rfl) (.skp (.skp (.putEq (by rw [hc1]) (.refl _)) rfl) rfl))
 refine un1 rfl ?_
 refine gjoin 7 (d:=16) (v:=(B (((decide (97≤c_))&&(decide (c_≤122)))||((decide (65≤c_))&&(decide (c_≤90)))))) (fun X hX=>?_) ?_
 ·refine split2 (fun hc3=>?_) (fun hc3=>?_)
  ·repeat (first | refine gu rfl ?_ | refine gs rfl rfl ?_)
   refine un1 (v:=(B true)) rfl<|dnil ?_
   exact hX _ (.putEq (by rw [hc3]; rfl) (by repeat (first | exact .putEq (by rw [hc3]) (.refl _) | refine .skp ?_ rfl)))
  ·refine gt rfl<|a1 rfl<|gt rfl<|a1 (v:=(B (decide (65≤c_)))) rfl<|gt rfl<|a1 rfl ?_
   refine gjoin 3 (d:=15) (v:=(B ((decide (65≤c_))&&(decide (c_≤90))))) (fun X hX=>?_) ?_
   ·refine split2 (fun hc2=>?_) (fun hc2=>?_)
    ·refine gt rfl<|a1 rfl<|gt rfl<|a1 (v:=(B (decide (c_≤90)))) rfl<|gt rfl<|a1 (v:=(B (decide (c_≤90)))) rfl<|dnil ?_
     exact hX _ (.putEq (by rw [hc2]; rfl) (.skp (.skp (.putEq (by rw [hc2]) (.refl _)) rfl) rfl))
    ·refine gs rfl rfl<|gs rfl rfl<|gt rfl<|a1 (v:=(B false)) rfl<|dnil ?_
     exact hX _ (.putEq (by rw [hc2]; rfl) (.skp (.skp (.putEq (by rw [hc2]) (.refl _)) rfl) rfl))
   refine un1 (v:=(B ((decide (65≤c_))&&(decide (c_≤90))))) rfl<|dnil ?_
   exact hX _ (.putEq (by rw [hc3]; rfl) (.skp (.skp (.skp (.skp (.putEq (by rw [hc3]) (.refl _)) rfl) rfl) rfl) rfl))
 refine un1 rfl<|dnil<|Sv.ret ?_
 subst h
 exact ⟨_,.refl _,_,rfl,⟨upd e0 0 (some (B (((decide (97≤c_))&&(decide (c_≤122)))||((decide (65≤c_))&&(decide (c_≤90)))))),e0,0⟩,(B (((decide (97≤c_))&&(decide (c_≤122)))||((decide (65≤c_))&&(decide (c_≤90))))),weak_canon [] rfl ndl nll nlz (.cf rfl rfl .nil) .nil,rfl,rfl,rfl,rfl⟩
noncomputable abbrev Z65 (s_:Tx) (c_:Int):Option Int:=indexByte? s_ c_
theorem Z7k {mL:Int}{s_:Tx}{c_:Int}{r:Int}(h:Z65 s_ c_=some r):CPure Tryz.prog (GG mL) 91 [(S s_),(.c (.val (.int .u8 c_)))] (I r):=indexByte_ok Tryz.lays137 h
def a65:AFunc:=⟨2,[(.tmp 4)],(sr [(oP 4 (.mov kF))]
 (sr [(mV 5 1),(mV 6 0),(oP 7 (.call 91 [(.tmp 5),(.tmp 6)])),(oP 8 (.bin .geq (.tmp 7) (kI 0))),(mV 4 8)]
 .ret))⟩
theorem c65:compFunc Tryz.prog 65=some a65:=by kernel_rfl
def Zbt (r:Bool):AV→Heap→Nat→Prop:=fun v h' n' => v=(B r)∧(h' = e0)∧n' = 0
noncomputable def Zu (c_:Int) (set_:Tx):Option Bool :=
 (Z65 set_ c_).bind fun r_ =>
 some (decide (0≤r_))
theorem Z66 {mL:Int}{c_:Int}{set_:Tx}{r:Bool}(h:Zu c_ set_=some r):CPure Tryz.prog (GG mL) 65 [(.c (.val (.int .u8 c_))),(S set_)] (B r):=by
 refine acalls_of_sv hmix c65 (R:=Zbt r) ?_
 unfold Zu at h
 refine ssr<|un1 rfl<|dnil<|ssr<|un1 rfl<|un1 rfl ?_
 obtain ⟨r_,hr1,h⟩:=bnd h
 refine un<|ac_pure (Z7k hr1) rfl rfl rfl<|un1 (v:=(B (decide (0≤r_)))) rfl<|un1 rfl<|dnil<|Sv.ret ?_
 exact rt0 h rfl rfl ⟨rfl,rfl,rfl⟩
def a40_c0:ACode:=(.cond (.tmp 30) (sr [(oP 2 (.mov (.const (.c (.str []))))),(oP 3 (.mov (.const (.c (.str []))))),(oP 4 (.mov kF))]
 .ret) .skip)
def a40_c1:ACode:=(.region [(oP 43 (.bin .add (.tmp 9) (kI 1))),(mV 9 43)])
def a40_c2:ACode:=(sr [(oP 10 (.bin .lss (.tmp 9) (.tmp 8)))]
 (.seq (.cond (.tmp 10) .skip (.exit 0))
 (.seq (.block 1 (sr [(mV 11 9),(mV 5 11)]
 (sr [(mV 12 0),(mV 13 5),(oP 14 (.idxS (.tmp 12) (.tmp 13))),(mV 6 14)]
 (.block 2 (sr [(mV 16 6),(oP 17 (.bin .eql (.tmp 16) (.const (.c (.val (.int .u8 58)))))),(mV 18 17),⟨(some 19),(.mov (.tmp 5)),(some (18,true))⟩,⟨(some 20),(.bin .gtr (.tmp 19) (kI 0)),(some (18,true))⟩,(oP 21 (.pick (.tmp 18) (.tmp 20) kF)),(mV 15 21)]
 (.cond (.tmp 15) (.seq (.drawn (.fin [((mV 22 0),(0,0)),((mV 23 5),(0,1)),((oP 24 (.slStr (.tmp 22) none (some (.tmp 23)))),(0,2)),((mV 26 0),(0,4)),((mV 27 5),(0,5)),((oP 28 (.bin .add (.tmp 27) (kI 1))),(0,6)),((oP 29 (.slStr (.tmp 26) (some (.tmp 28)) none)),(0,7)),((oP 25 (.call 63 [(.tmp 24)])),(2,3)),((mV 2 25),(0,8)),((mV 3 29),(0,9)),((oP 4 (.mov kT)),(0,10))]))
 .ret) (sr [(mV 31 6),(oP 32 (.call 64 [(.tmp 31)])),(oP 33 (.un .not (.tmp 32))),(mV 34 33),⟨(some 35),(.mov (.tmp 5)),(some (34,true))⟩,⟨(some 36),(.bin .eql (.tmp 35) (kI 0)),(some (34,true))⟩,⟨(some 37),(.mov (.tmp 36)),(some (34,true))⟩,⟨(some 38),(.mov (.tmp 6)),(some (37,false))⟩,⟨(some 39),(.call 65 [(.tmp 38),(.const (.c (.str [48,49,50,51,52,53,54,55,56,57,43,45,46])))]),(some (37,false))⟩,⟨(some 40),(.un .not (.tmp 39)),(some (37,false))⟩,⟨(some 41),(.pick (.tmp 37) kT (.tmp 40)),(some (34,true))⟩,(oP 42 (.pick (.tmp 34) (.tmp 41) kF)),(mV 30 42)]
 a40_c0)))))))
 a40_c1)))
def a40:AFunc:=⟨1,[(.tmp 2),(.tmp 3),(.tmp 4)],(sr [(oP 2 (.mov (.const (.c (.str []))))),(oP 3 (.mov (.const (.c (.str []))))),(oP 4 (.mov kF))]
 (.seq (sr [(mV 7 0),(oP 8 (.lenS (.tmp 7))),(oP 9 (.mov (kI 0)))]
 (.block 0 (.loop a40_c2)))
 (sr [(oP 2 (.mov (.const (.c (.str []))))),(oP 3 (.mov (.const (.c (.str []))))),(oP 4 (.mov kF))]
 .ret)))⟩
theorem c40:compFunc Tryz.prog 40=some a40:=by kernel_rfl
def Z67 (r:(Tx×Tx×Bool)):AV→Heap→Nat→Prop:=fun v h' n' => v=(.tup [(S r.1),(S r.2.1),(B r.2.2)])∧(h' = e0)∧n' = 0
abbrev Zbu (mL:Int) (Q:AExit→St→Prop):AExit→St→Prop:=AThen (Sv Tryz.prog (GG mL) 0 a40_c1 Q) Q
abbrev Zbv (mL:Int) (Q:AExit→St→Prop):AExit→St→Prop:=ABlock 1 (Zbu mL Q)
abbrev Zbw (mL:Int) (Q:AExit→St→Prop):AExit→St→Prop:=ABlock 2 (Zbv mL Q)
abbrev Z7l (s_:Tx) (F_:Int→Option (Tx×Tx×Bool)) (o:(Tx×Tx×Bool)) (R_:St→Prop):Prop:=∀(v9:Int),F_ v9=some o→∀ s,Weak 0 s ⟨(ue [(9,(I v9)),(8,(I (s_.length:Int))),(0,(S s_))]),e0,0⟩→R_ s
abbrev Z7m (F_:Unit→Option (Tx×Tx×Bool)) (o:(Tx×Tx×Bool)) (R_:St→Prop):Prop:=∀(_:Unit),F_ ()=some o→∀ s,Weak 0 s ⟨e0,e0,0⟩→R_ s
noncomputable def Z2w (v9:Int) (s_:Tx) (self:Int→Option (Tx×Tx×Bool)) (K0_:Unit→Option (Tx×Tx×Bool)) (v30:Bool):Option (Tx×Tx×Bool) :=
 if v30 then
  some ([],[],false)
 else
  self (wi (v9+1))
theorem Z68 {mL:Int}{Q:AExit→St→Prop}{v9:Int}{s_:Tx}{self:Int→Option (Tx×Tx×Bool)}{K0_:Unit→Option (Tx×Tx×Bool)}{v30:Bool}{o:(Tx×Tx×Bool)}(h:Z2w v9 s_ self K0_ v30=some o)
  (hself:Z7l s_ self o (Q .normal))
  (hK0:Z7m K0_ o (Q (.exit 0)))
  (hr:∀ s,Ends a40.results 0 (Z67 o) .ret s→Q .ret s) :
  Sv Tryz.prog (GG mL) 0 a40_c0 (Zbw mL Q) ⟨(ue [(30,(B v30)),(9,(I v9)),(8,(I (s_.length:Int))),(0,(S s_))]),e0,0⟩:=by
 unfold Z2w at h
 refine Sv.cnd rfl h (fun h=>?_) fun h=>?_
 ·refine ssr<|un1 rfl<|un1 rfl<|un1 rfl<|dnil<|Sv.ret ?_
  exact hr _ (rt0 h rfl rfl ⟨rfl,rfl,rfl⟩)
 ·refine Sv.skip<|srg<|un1 (v:=(I (wi (v9+1)))) rfl<|un1 rfl<|dnil ?_
  exact hself (wi (v9+1)) h _ (wcn [] rfl (.cf rfl rfl (.cf rfl rfl (.cf rfl rfl .nil))) .nil)
abbrev Z7n (s_:Tx) (F_:Nat→Int→Option (Tx×Tx×Bool)) (o:(Tx×Tx×Bool)):Nat→St→Prop:=fun k s=>∃(v9:Int),F_ k v9=some o∧s=⟨(ue [(9,(I v9)),(8,(I (s_.length:Int))),(0,(S s_))]),e0,0⟩
noncomputable def Zd (s_:Tx) (K0_:Unit→Option (Tx×Tx×Bool)):Nat→Int→Option (Tx×Tx×Bool)
 | 0,_=>none
 | k+1,v9 =>
  if decide (v9<(s_.length:Int)) then
   (at? s_ v9).bind fun c_ =>
   if ((decide ((c_.toNat:Int)=58))&&(decide (0<v9))) then
    (sub? s_ 0 v9).bind fun r_ =>
    (sub? s_ (wi (v9+1)) (s_.length:Int)).bind fun r_1 =>
    (Z28 r_).bind fun r_2 =>
    some (r_2,r_1,true)
   else
    if (!(Z1l (c_.toNat:Int))) then
     if decide (v9=0) then
      Z2w v9 s_ (Zd s_ K0_ k) K0_ true
     else
      (Zu (c_.toNat:Int) [48,49,50,51,52,53,54,55,56,57,43,45,46]).bind fun r_3 =>
      Z2w v9 s_ (Zd s_ K0_ k) K0_ (!r_3)
    else
     Z2w v9 s_ (Zd s_ K0_ k) K0_ false
  else
   K0_ ()
theorem Zbx {mL:Int}{Q:AExit→St→Prop}{s_:Tx}{K0_:Unit→Option (Tx×Tx×Bool)}{k:Nat}{v9:Int}{o:(Tx×Tx×Bool)}(h:Zd s_ K0_ k v9=some o)
  (hK0:Z7m K0_ o (Q (.exit 0)))
  (hr:∀ s,Ends a40.results 0 (Z67 o) .ret s→Q .ret s) :
  Sv Tryz.prog (GG mL) 0 (.loop a40_c2) Q ⟨(ue [(9,(I v9)),(8,(I (s_.length:Int))),(0,(S s_))]),e0,0⟩:=by
 refine Sv.loop (I:=Z7n s_ (Zd s_ K0_) o) (fun k s hI=>?_) ⟨v9,h,rfl⟩
 clear h
 clear v9
 obtain ⟨v9,h,rfl⟩:=hI
 cases k with
 | zero=>cases h
 | succ k =>
 rw [Zd] at h
 have hself:Z7l s_ (Zd s_ K0_ k) o (rnd 0 (Z7n s_ (Zd s_ K0_) o) k Q):=fun v9 h s hw=>⟨_,k,hw,Nat.lt_succ_self k,v9,h,rfl⟩
 refine ssr<|un1 (v:=(B (decide (v9<(s_.length:Int))))) rfl<|dnil<|Sv.seq ?_
 refine Sv.cnd rfl h (fun h=>?_) fun h=>?_
 ·refine Sv.skip<|Sv.seq<|Sv.block<|ssr<|un1 rfl<|un1 rfl<|dnil<|ssr<|un1 rfl<|un1 rfl ?_
  obtain ⟨c_,hx1,h⟩:=bnd h
  refine un1 (v:=(.c (.val (.int .u8 (c_.toNat:Int))))) (s_idxS rfl rfl hx1)<|un1 rfl<|dnil<|Sv.block<|ssr<|un1 rfl<|un1 (v:=(B (decide ((c_.toNat:Int)=58)))) rfl<|un1 rfl ?_
  refine gjoin 3 (d:=21) (v:=(B ((decide ((c_.toNat:Int)=58))&&(decide (0<v9))))) (fun X hX=>?_) ?_
  ·refine split2 (fun hc2=>?_) (fun hc2=>?_)
   ·refine gt rfl<|a1 rfl<|gt rfl<|a1 (v:=(B (decide (0<v9)))) rfl<|un1 (v:=(B (decide (0<v9)))) rfl<|dnil ?_
    exact hX _ (.putEq (by rw [hc2]; rfl) (.skp (.skp (.putEq (by rw [hc2]) (.refl _)) rfl) rfl))
   ·refine gs rfl rfl<|gs rfl rfl<|un1 (v:=(B false)) rfl<|dnil ?_
    exact hX _ (.putEq (by rw [hc2]; rfl) (.skp (.skp (.putEq (by rw [hc2]) (.refl _)) rfl) rfl))
  refine un1 rfl<|dnil ?_
  refine Sv.cnd rfl h (fun h=>?_) fun h=>?_
  ·refine Sv.seq<|Sv.drawn<|un1 rfl<|un1 rfl ?_
   obtain ⟨r_,hx2,h⟩:=bnd h
   refine un1 (v:=(S r_)) (s_slStr rfl rfl rfl hx2)<|un1 rfl<|un1 rfl<|un1 (v:=(I (wi (v9+1)))) rfl ?_
   obtain ⟨r_1,hx3,h⟩:=bnd h
   refine un1 (v:=(S r_1)) (s_slStr rfl rfl rfl hx3) ?_
   obtain ⟨r_2,hr1,h⟩:=bnd h
   refine un<|ac_pure (Z7i hr1) rfl rfl rfl<|un1 rfl<|un1 rfl<|un1 rfl<|dnil<|Sv.ret ?_
   exact hr _ (rt0 h rfl rfl ⟨rfl,rfl,rfl⟩)
  ·refine ssr<|un1 rfl<|un<|ac_pure (Z7j (mL:=mL) (c_.toNat:Int)) rfl rfl rfl<|un1 (v:=(B (!(Z1l (c_.toNat:Int))))) rfl<|un1 rfl ?_
   refine spl h (fun h=>?_) fun h=>?_
   ·refine gt rfl<|a1 rfl<|gt rfl<|a1 (v:=(B (decide (v9=0)))) rfl<|gt rfl<|a1 rfl ?_
    refine spl h (fun h=>?_) fun h=>?_
    ·refine gs rfl rfl<|gs rfl rfl<|gs rfl rfl<|gt rfl<|a1 (v:=(B true)) rfl<|un1 (v:=(B true)) rfl<|un1 rfl<|dnil ?_
     exact Sv.weak (wcn [] rfl (.cf rfl rfl (.cf rfl rfl (.cf rfl rfl (.cf rfl rfl .nil)))) .nil) (Z68 h hself hK0 hr)
    ·refine gt rfl<|a1 rfl ?_
     obtain ⟨r_3,hr2,h⟩:=bnd h
     refine gt rfl<|ac_pure (Z66 hr2) rfl rfl rfl<|gt rfl<|a1 (v:=(B (!r_3))) rfl<|gt rfl<|a1 (v:=(B (!r_3))) rfl<|un1 (v:=(B (!r_3))) rfl<|un1 rfl<|dnil ?_
     exact Sv.weak (wcn [] rfl (.cf rfl rfl (.cf rfl rfl (.cf rfl rfl (.cf rfl rfl .nil)))) .nil) (Z68 h hself hK0 hr)
   ·repeat (first | refine gu rfl ?_ | refine gs rfl rfl ?_)
    refine un1 (v:=(B false)) rfl<|un1 rfl<|dnil ?_
    exact Sv.weak (wcn [] rfl (.cf rfl rfl (.cf rfl rfl (.cf rfl rfl (.cf rfl rfl .nil)))) .nil) (Z68 h hself hK0 hr)
 ·refine Sv.exit ?_
  exact hK0 () h _ (wcn [] rfl .nil .nil)
noncomputable def Z2x (s_:Tx):Option (Tx×Tx×Bool) :=
 lim fun kk=>Zd s_ (fun (_:Unit) => 
   some ([],[],false)) kk 0
theorem Z7o {mL:Int}{s_:Tx}{r:(Tx×Tx×Bool)}(h:Z2x s_=some r):CPure Tryz.prog (GG mL) 40 [(S s_)] (.tup [(S r.1),(S r.2.1),(B r.2.2)]):=by
 refine acalls_of_sv hmix c40 (R:=Z67 r) ?_
 unfold Z2x at h
 refine ssr<|un1 rfl<|un1 rfl<|un1 rfl<|dnil<|Sv.seq<|ssr<|un1 rfl<|un1 (v:=(I (s_.length:Int))) rfl<|un1 rfl<|dnil<|Sv.block ?_
 obtain ⟨kk,h⟩:=lim_some h
 refine Sv.weak (wcn [] rfl (.cf rfl rfl (.cf rfl rfl (.cf rfl rfl .nil))) .nil) (Zbx h ?_ (fun s hs=>hs))
 ·intro _ h _ hw1
  refine Sv.weak hw1<|ssr<|un1 rfl<|un1 rfl<|un1 rfl<|dnil<|Sv.ret ?_
  exact rt0 h rfl rfl ⟨rfl,rfl,rfl⟩
def a49_c0:ACode:=.ret
def a49:AFunc:=⟨2,[(.tmp 4)],(sr [(oP 4 (.mov kF))]
 (sr [(mV 5 0),(oP 6 (.lenS (.tmp 5))),(mV 7 1),(oP 8 (.lenS (.tmp 7))),(oP 9 (.bin .geq (.tmp 6) (.tmp 8))),(mV 10 9),⟨(some 11),(.mov (.tmp 0)),(some (10,true))⟩,⟨(some 12),(.mov (.tmp 1)),(some (10,true))⟩,⟨(some 13),(.lenS (.tmp 12)),(some (10,true))⟩,⟨(some 14),(.slStr (.tmp 11) none (some (.tmp 13))),(some (10,true))⟩,⟨(some 15),(.mov (.tmp 1)),(some (10,true))⟩,⟨(some 16),(.bin .eql (.tmp 14) (.tmp 15)),(some (10,true))⟩,(oP 17 (.pick (.tmp 10) (.tmp 16) kF)),(mV 4 17)]
 a49_c0))⟩
theorem c49:compFunc Tryz.prog 49=some a49:=by kernel_rfl
def Z7p (r:Bool):AV→Heap→Nat→Prop:=fun v h' n' => v=(B r)∧(h' = e0)∧n' = 0
noncomputable def Z3u (v4:Bool):Option Bool :=
 some v4
theorem Z7q {mL:Int}{v4:Bool}{o:Bool}(h:Z3u v4=some o) :
  Sv Tryz.prog (GG mL) 0 a49_c0 (Ends a49.results 0 (Z7p o)) ⟨(upd e0 4 (some (B v4))),e0,0⟩:=by
 unfold Z3u at h
 refine Sv.ret ?_
 exact rt0 h rfl rfl ⟨rfl,rfl,rfl⟩
noncomputable def Z29 (s_:Tx) (prefix_:Tx):Option Bool :=
 if decide ((prefix_.length:Int)≤(s_.length:Int)) then
  (sub? s_ 0 (prefix_.length:Int)).bind fun r_ =>
  Z3u (decide (r_=prefix_))
 else
  Z3u false
theorem Z69 {mL:Int}{s_:Tx}{prefix_:Tx}{r:Bool}(h:Z29 s_ prefix_=some r):CPure Tryz.prog (GG mL) 49 [(S s_),(S prefix_)] (B r):=by
 refine acalls_of_sv hmix c49 (R:=Z7p r) ?_
 unfold Z29 at h
 refine ssr<|un1 rfl<|dnil<|ssr<|un1 rfl<|un1 (v:=(I (s_.length:Int))) rfl<|un1 rfl<|un1 (v:=(I (prefix_.length:Int))) rfl<|un1 (v:=(B (decide ((prefix_.length:Int)≤(s_.length:Int))))) rfl<|un1 rfl ?_
 refine spl h (fun h=>?_) fun h=>?_
 ·refine gt rfl<|a1 rfl<|gt rfl<|a1 rfl<|gt rfl<|a1 (v:=(I (prefix_.length:Int))) rfl ?_
  obtain ⟨r_,hx1,h⟩:=bnd h
  refine gt rfl<|a1 (v:=(S r_)) (s_slStr rfl rfl rfl hx1)<|gt rfl<|a1 rfl<|gt rfl<|a1 (v:=(B (decide (r_=prefix_)))) rfl<|un1 (v:=(B (decide (r_=prefix_)))) rfl<|un1 rfl<|dnil ?_
  exact Sv.weak (wcn [] rfl (.cf rfl rfl .nil) .nil) (Z7q h)
 ·repeat (first | refine gu rfl ?_ | refine gs rfl rfl ?_)
  refine un1 (v:=(B false)) rfl<|un1 rfl<|dnil ?_
  exact Sv.weak (wcn [] rfl (.cf rfl rfl .nil) .nil) (Z7q h)
def a78:AFunc:=⟨2,[(.tmp 4),(.tmp 5)],(sr [(oP 4 (.mov (.const (.c (.str []))))),(oP 5 (.mov kF))]
 (.seq (sr [(mV 6 0),(mV 7 1),(oP 8 (.call 49 [(.tmp 6),(.tmp 7)])),(oP 9 (.un .not (.tmp 8)))]
 (.cond (.tmp 9) (sr [(mV 10 0),(mV 4 10),(oP 5 (.mov kF))]
 .ret) .skip))
 (sr [(mV 11 0),(mV 12 1),(oP 13 (.lenS (.tmp 12))),(oP 14 (.slStr (.tmp 11) (some (.tmp 13)) none)),(mV 4 14),(oP 5 (.mov kT))]
 .ret)))⟩
theorem c78:compFunc Tryz.prog 78=some a78:=by kernel_rfl
def Zby (r:(Tx×Bool)):AV→Heap→Nat→Prop:=fun v h' n' => v=(.tup [(S r.1),(B r.2)])∧(h' = e0)∧n' = 0
noncomputable def Z59 (s_:Tx) (prefix_:Tx):Option (Tx×Bool) :=
 (Z29 s_ prefix_).bind fun r_ =>
 if (!r_) then
  some (s_,false)
 else
  (sub? s_ (prefix_.length:Int) (s_.length:Int)).bind fun r_1 =>
  some (r_1,true)
theorem Zbz {mL:Int}{s_:Tx}{prefix_:Tx}{r:(Tx×Bool)}(h:Z59 s_ prefix_=some r):CPure Tryz.prog (GG mL) 78 [(S s_),(S prefix_)] (.tup [(S r.1),(B r.2)]):=by
 refine acalls_of_sv hmix c78 (R:=Zby r) ?_
 unfold Z59 at h
 refine ssr<|un1 rfl<|un1 rfl<|dnil<|Sv.seq<|ssr<|un1 rfl<|un1 rfl ?_
 obtain ⟨r_,hr1,h⟩:=bnd h
 refine un<|ac_pure (Z69 hr1) rfl rfl rfl<|un1 (v:=(B (!r_))) rfl<|dnil ?_
 refine Sv.cnd rfl h (fun h=>?_) fun h=>?_
 ·refine ssr<|un1 rfl<|un1 rfl<|un1 rfl<|dnil<|Sv.ret ?_
  exact rt0 h rfl rfl ⟨rfl,rfl,rfl⟩
 ·refine Sv.skip<|ssr<|un1 rfl<|un1 rfl<|un1 (v:=(I (prefix_.length:Int))) rfl ?_
  obtain ⟨r_1,hx1,h⟩:=bnd h
  refine un1 (v:=(S r_1)) (s_slStr rfl rfl rfl hx1)<|un1 rfl<|un1 rfl<|dnil<|Sv.ret ?_
  exact rt0 h rfl rfl ⟨rfl,rfl,rfl⟩
def a57:AFunc:=⟨2,[(.tmp 4),(.tmp 5)],(sr [(oP 4 (.mov (.const (.c (.str []))))),(oP 5 (.mov kF))]
 (sr [(mV 6 0),(mV 7 1),(oP 8 (.call 78 [(.tmp 6),(.tmp 7)])),(oP 9 (.ext (.tmp 8) 0)),(oP 10 (.ext (.tmp 8) 1)),(mV 4 9),(mV 5 10)]
 .ret))⟩
theorem c57:compFunc Tryz.prog 57=some a57:=by kernel_rfl
def Zc0 (r:(Tx×Bool)):AV→Heap→Nat→Prop:=fun v h' n' => v=(.tup [(S r.1),(B r.2)])∧(h' = e0)∧n' = 0
noncomputable def Z2y (s_:Tx) (prefix_:Tx):Option (Tx×Bool) :=
 (Z59 s_ prefix_).bind fun r_ =>
 some (r_.1,r_.2)
theorem Z7r {mL:Int}{s_:Tx}{prefix_:Tx}{r:(Tx×Bool)}(h:Z2y s_ prefix_=some r):CPure Tryz.prog (GG mL) 57 [(S s_),(S prefix_)] (.tup [(S r.1),(B r.2)]):=by
 refine acalls_of_sv hmix c57 (R:=Zc0 r) ?_
 unfold Z2y at h
 refine ssr<|un1 rfl<|un1 rfl<|dnil<|ssr<|un1 rfl<|un1 rfl ?_
 obtain ⟨r_,hr1,h⟩:=bnd h
 refine un<|ac_pure (Zbz hr1) rfl rfl rfl<|un1 (v:=(S r_.1)) rfl<|un1 (v:=(B r_.2)) rfl<|un1 rfl<|un1 rfl<|dnil<|Sv.ret ?_
 exact rt0 h rfl rfl ⟨rfl,rfl,rfl⟩
noncomputable abbrev Z7s (s_:Tx) (chars_:Tx):Option Int:=indexAny? s_ chars_
theorem Zc1 {mL:Int}{s_:Tx}{chars_:Tx}{r:Int}(h:Z7s s_ chars_=some r):CPure Tryz.prog (GG mL) 58 [(S s_),(S chars_)] (I r):=indexAny_ok Tryz.lays153 (by kernel_rfl) h
noncomputable abbrev Z3v (s_:Tx) (sep_:Tx):Option (Tx×Tx×Bool):=cut? s_ sep_
theorem Z5a {mL:Int}{s_:Tx}{sep_:Tx}{r:(Tx×Tx×Bool)}(h:Z3v s_ sep_=some r):CPure Tryz.prog (GG mL) 44 [(S s_),(S sep_)] (.tup [(S r.1),(S r.2.1),(B r.2.2)]):=cut_ok (m:=mL) Tryz.lays145 rfl h
noncomputable abbrev Z5b (s_:Tx) (sep_:Tx):Option TT:=split? s_ sep_
theorem Z6a {mL:Int}{s_:Tx}{sep_:Tx}{r:TT}(h:Z5b s_ sep_=some r):ACalls Tryz.prog (GG mL) 51 [(S s_),(S sep_)] e0 0 (fun v h' n' => ∃ z:Bool,(z=true→r=[])∧v=lstV z 0 1 r.length∧(h' = (upd e0 0 (lstB z 1 (r.map eStr))))∧n' = 1):=split_ok (m:=mL) Tryz.lays146 (by kernel_rfl) rfl h
noncomputable abbrev Z3w (s_:Tx) (cutset_:Tx):Option Tx:=trim? s_ cutset_
theorem Z7t {mL:Int}{s_:Tx}{cutset_:Tx}{r:Tx}(h:Z3w s_ cutset_=some r):CPure Tryz.prog (GG mL) 84 [(S s_),(S cutset_)] (S r):=trim_ok Tryz.lays160 (by kernel_rfl) h
def a83_c0:ACode:=(.cond (.tmp 21) (sr [(oP 2 (.mov kF))]
 .ret) .skip)
def a83_c1:ACode:=(.region [(oP 22 (.bin .add (.tmp 11) (kI 1))),(mV 11 22)])
def a83_c2:ACode:=(sr [(oP 12 (.bin .lss (.tmp 11) (.tmp 10)))]
 (.seq (.cond (.tmp 12) .skip (.exit 0))
 (.seq (.block 1 (sr [(oP 13 (.iaddr 1 (.tmp 9) (.tmp 11))),(oP 14 (.load false 1 (.tmp 13))),(mV 4 14)]
 (sr [(mV 15 4),(oP 16 (.bin .eql (.tmp 15) (.const (.c (.str []))))),(mV 17 16),⟨(some 18),(.mov (.tmp 4)),(some (17,false))⟩,⟨(some 19),(.call 84 [(.tmp 18),(.const (.c (.str [97,98,99,100,101,102,103,104,105,106,107,108,109,110,111,112,113,114,115,116,117,118,119,120,121,122,48,49,50,51,52,53,54,55,56,57,45])))]),(some (17,false))⟩,⟨(some 20),(.bin .neq (.tmp 19) (.const (.c (.str [])))),(some (17,false))⟩,(oP 21 (.pick (.tmp 17) kT (.tmp 20)))]
 a83_c0)))
 a83_c1)))
def a83:AFunc:=⟨1,[(.tmp 2)],(sr [(oP 2 (.mov kF))]
 (.seq (sr [(mV 5 0),(oP 6 (.lenS (.tmp 5))),(oP 7 (.bin .gtr (.tmp 6) (kI 100)))]
 (.cond (.tmp 7) (sr [(oP 2 (.mov kF))]
 .ret) .skip))
 (.seq (sr [(mV 8 0),(oP 9 (.call 51 [(.tmp 8),(.const (.c (.str [46])))])),(oP 10 (.len (.tmp 9))),(oP 11 (.mov (kI 0)))]
 (.block 0 (.loop a83_c2)))
 (sr [(oP 2 (.mov kT))]
 .ret))))⟩
theorem c83:compFunc Tryz.prog 83=some a83:=by kernel_rfl
def Z6b (r:Bool):AV→Heap→Nat→Prop:=fun v h' n' => v=(B r)∧(h' = e0)∧n' = 0
abbrev Zc2 (mL:Int) (Q:AExit→St→Prop):AExit→St→Prop:=AThen (Sv Tryz.prog (GG mL) 0 a83_c1 Q) Q
abbrev Zc3 (mL:Int) (Q:AExit→St→Prop):AExit→St→Prop:=ABlock 1 (Zc2 mL Q)
abbrev Z7u (r_:TT) (F_:TT→Int→Option Bool) (o:Bool) (R_:St→Prop):Prop:=∀(v9:TT) (v11:Int) (zv9:Bool) (_:zv9=true→v9=[]),F_ v9 v11=some o→∀ s,Weak 0 s ⟨(ue [(11,(I v11)),(10,(I (r_.length:Int))),(9,(lstV zv9 0 1 v9.length))]),(upd e0 0 (lstB zv9 1 (v9.map eStr))),1⟩→R_ s
abbrev Z7v (F_:Unit→Option Bool) (o:Bool) (R_:St→Prop):Prop:=∀(_:Unit),F_ ()=some o→∀ s,Weak 0 s ⟨e0,e0,0⟩→R_ s
noncomputable def Z3x (v11:Int) (r_:TT) (self:TT→Int→Option Bool) (K0_:Unit→Option Bool) (v91:TT) (v21:Bool):Option Bool :=
 if v21 then
  some false
 else
  self v91 (wi (v11+1))
theorem Z7w {mL:Int}{Q:AExit→St→Prop}{v11:Int}{r_:TT}{self:TT→Int→Option Bool}{K0_:Unit→Option Bool}{v91:TT}{v21:Bool}{zv91:Bool}(hzv91:zv91=true→v91=[]) {o:Bool}(h:Z3x v11 r_ self K0_ v91 v21=some o)
  (hself:Z7u r_ self o (Q .normal))
  (hK0:Z7v K0_ o (Q (.exit 0)))
  (hr:∀ s,Ends a83.results 0 (Z6b o) .ret s→Q .ret s) :
  Sv Tryz.prog (GG mL) 0 a83_c0 (Zc3 mL Q) ⟨(ue [(21,(B v21)),(11,(I v11)),(10,(I (r_.length:Int))),(9,(lstV zv91 0 1 v91.length))]),(upd e0 0 (lstB zv91 1 (v91.map eStr))),1⟩:=by
 unfold Z3x at h
 refine Sv.cnd rfl h (fun h=>?_) fun h=>?_
 ·refine ssr<|un1 rfl<|dnil<|Sv.ret ?_
  exact hr _ (rt0 h rfl rfl ⟨rfl,rfl,rfl⟩)
 ·refine Sv.skip<|srg<|un1 (v:=(I (wi (v11+1)))) rfl<|un1 rfl<|dnil ?_
  exact hself v91 (wi (v11+1)) zv91 hzv91 h _ (wcn [0] rfl (.cf rfl rfl (.cf rfl rfl (.cons rfl (.c (lsr rfl rfl)) .nil))) (.row (by decide) rfl (fr_map fun _=>rfl) .nil))
abbrev Z7x (r_:TT) (F_:Nat→TT→Int→Option Bool) (o:Bool):Nat→St→Prop:=fun k s=>∃(v9:TT),∃(v11:Int),∃(zv9:Bool),(zv9=true→v9=[])∧F_ k v9 v11=some o∧s=⟨(ue [(11,(I v11)),(10,(I (r_.length:Int))),(9,(lstV zv9 0 1 v9.length))]),(upd e0 0 (lstB zv9 1 (v9.map eStr))),1⟩
noncomputable def Zv (r_:TT) (K0_:Unit→Option Bool):Nat→TT→Int→Option Bool
 | 0,_,_=>none
 | k+1,v9,v11 =>
  if decide (v11<(r_.length:Int)) then
   (at? v9 v11).bind fun x_ =>
   if decide (x_=[]) then
    Z3x v11 r_ (Zv r_ K0_ k) K0_ v9 true
   else
    (Z3w x_ [97,98,99,100,101,102,103,104,105,106,107,108,109,110,111,112,113,114,115,116,117,118,119,120,121,122,48,49,50,51,52,53,54,55,56,57,45]).bind fun r_1 =>
    Z3x v11 r_ (Zv r_ K0_ k) K0_ v9 (!decide (r_1=[]))
  else
   K0_ ()
theorem Zc4 {mL:Int}{Q:AExit→St→Prop}{r_:TT}{K0_:Unit→Option Bool}{k:Nat}{v9:TT}{v11:Int}{zv9:Bool}(hzv9:zv9=true→v9=[]) {o:Bool}(h:Zv r_ K0_ k v9 v11=some o)
  (hK0:Z7v K0_ o (Q (.exit 0)))
  (hr:∀ s,Ends a83.results 0 (Z6b o) .ret s→Q .ret s) :
  Sv Tryz.prog (GG mL) 0 (.loop a83_c2) Q ⟨(ue [(11,(I v11)),(10,(I (r_.length:Int))),(9,(lstV zv9 0 1 v9.length))]),(upd e0 0 (lstB zv9 1 (v9.map eStr))),1⟩:=by
 refine Sv.loop (I:=Z7x r_ (Zv r_ K0_) o) (fun k s hI=>?_) ⟨v9,v11,zv9,hzv9,h,rfl⟩
 clear h
 clear hzv9 zv9 v11 v9
 obtain ⟨v9,v11,zv9,hzv9,h,rfl⟩:=hI
 cases k with
 | zero=>cases h
 | succ k =>
 rw [Zv] at h
 have hself:Z7u r_ (Zv r_ K0_ k) o (rnd 0 (Z7x r_ (Zv r_ K0_) o) k Q):=fun v9 v11 zv9 hzv9 h s hw=>⟨_,k,hw,Nat.lt_succ_self k,v9,v11,zv9,hzv9,h,rfl⟩
 refine ssr<|un1 (v:=(B (decide (v11<(r_.length:Int))))) rfl<|dnil<|Sv.seq ?_
 refine Sv.cnd rfl h (fun h=>?_) fun h=>?_
 ·refine Sv.skip<|Sv.seq<|Sv.block<|ssr ?_
  obtain ⟨x_,hx1,h⟩:=bnd h
  refine un1 (v:=(.c (.ref 0 1 v11.toNat 0))) (s_iaddrL rfl rfl hzv9 hx1)<|un1 (v:=(S x_)) (s_loadL (z:=zv9) (e:=eStr) rfl rfl hzv9 hx1 rfl rfl)<|un1 rfl<|dnil<|ssr<|un1 rfl<|un1 (v:=(B (decide (x_=[])))) rfl<|un1 rfl ?_
  refine spl h (fun h=>?_) fun h=>?_
  ·refine gs rfl rfl<|gs rfl rfl<|gs rfl rfl<|un1 (v:=(B true)) rfl<|dnil ?_
   exact Sv.weak (wcn [0] rfl (.cf rfl rfl (.cf rfl rfl (.cf rfl rfl (.cons rfl (.c (lsr rfl rfl)) .nil)))) (.row (by decide) rfl (fr_map fun _=>rfl) .nil)) (Z7w hzv9 h hself hK0 hr)
  ·refine gt rfl<|a1 rfl ?_
   obtain ⟨r_1,hr2,h⟩:=bnd h
   refine gt rfl<|ac_pure (Z7t hr2) rfl rfl rfl<|gt rfl<|a1 (v:=(B (!decide (r_1=[])))) rfl<|un1 (v:=(B (!decide (r_1=[])))) rfl<|dnil ?_
   exact Sv.weak (wcn [0] rfl (.cf rfl rfl (.cf rfl rfl (.cf rfl rfl (.cons rfl (.c (lsr rfl rfl)) .nil)))) (.row (by decide) rfl (fr_map fun _=>rfl) .nil)) (Z7w hzv9 h hself hK0 hr)
 ·refine Sv.exit ?_
  exact hK0 () h _ (wcn [] rfl .nil .nil)
noncomputable def Z3y (s_:Tx):Option Bool :=
 if decide (100<(s_.length:Int)) then
  some false
 else
  (Z5b s_ [46]).bind fun r_ =>
  lim fun kk=>Zv r_ (fun (_:Unit) => 
    some true) kk r_ 0
theorem Zc5 {mL:Int}{s_:Tx}{r:Bool}(h:Z3y s_=some r):CPure Tryz.prog (GG mL) 83 [(S s_)] (B r):=by
 refine acalls_of_sv hmix c83 (R:=Z6b r) ?_
 unfold Z3y at h
 refine ssr<|un1 rfl<|dnil<|Sv.seq<|ssr<|un1 rfl<|un1 (v:=(I (s_.length:Int))) rfl<|un1 (v:=(B (decide (100<(s_.length:Int))))) rfl<|dnil ?_
 refine Sv.cnd rfl h (fun h=>?_) fun h=>?_
 ·refine ssr<|un1 rfl<|dnil<|Sv.ret ?_
  exact rt0 h rfl rfl ⟨rfl,rfl,rfl⟩
 ·refine Sv.skip<|Sv.seq<|ssr<|un1 rfl ?_
  obtain ⟨r_,hr1,h⟩:=bnd h
  refine un<|ac_gen (bs:=[]) («as»:=[(S s_),(S [46])]) (h2:=_) (h1:=e0) (Z6a hr1) rfl (.cons (avAs_free rfl) (.cons (avAs_free rfl) .nil)) (hsub_refl _) (.nil _) (fun _=>rfl) (by decide) (by decide) (.cons (avAs_free rfl) (.cons (avAs_free rfl) .nil)) .nil ?_
  rintro _ _ _ hn ⟨z_,hz_,rfl,rfl,rfl⟩
  refine ⟨.inl rfl,(upd (rem [] _) 0 (lstB z_ 1 (r_.map eStr))),fun hbd=>(m3_cons (m3_row rfl (fr_map fun _=>rfl)) (m3_rem (in_nil _) (.cons (by decide) .nil) hbd)),(lstV z_ 0 1 r_.length),1,(by cases z_ <;> rfl),rfl,?_⟩
  refine un1 (v:=(I (r_.length:Int))) (s_lenL rfl (len_nil_of hz_))<|un1 rfl<|dnil<|Sv.block ?_
  obtain ⟨kk,h⟩:=lim_some h
  refine Sv.weak (wcn [0] rfl (.cf rfl rfl (.cf rfl rfl (.cons rfl (.c (lsr rfl rfl)) .nil))) (.row (by decide) rfl (fr_map fun _=>rfl) .nil)) (Zc4 hz_ h ?_ (fun s hs=>hs))
  ·intro _ h _ hw1
   refine Sv.weak hw1<|ssr<|un1 rfl<|dnil<|Sv.ret ?_
   exact rt0 h rfl rfl ⟨rfl,rfl,rfl⟩
noncomputable abbrev Z6c (s_:Tx):Option (Int×Bool):=atoi? s_
theorem Zc6 {mL:Int}{s_:Tx}{r:(Int×Bool)}(h:Z6c s_=some r):CPure Tryz.prog (GG mL) 85 [(S s_)] (.tup [(I r.1),(.c (errC r.2))]):=atoi_ok Tryz.laysC172 (by kernel_rfl) (by kernel_rfl) h
def a86:AFunc:=⟨1,[(.tmp 2)],(sr [(oP 2 (.mov (kI 0)))]
 (.seq (sr [(mV 3 0)]
 (.block 0 (sr [(oP 5 (.bin .eql (.tmp 3) (.const (.c (.str [104,116,116,112]))))),(mV 4 5)]
 (.cond (.tmp 4) (sr [(oP 2 (.mov (kI 80)))]
 .ret) (sr [(oP 7 (.bin .eql (.tmp 3) (.const (.c (.str [104,116,116,112,115]))))),(mV 6 7)]
 (.cond (.tmp 6) (sr [(oP 2 (.mov (kI 443)))]
 .ret) .skip))))))
 (sr [(oP 2 (.mov (kI 0)))]
 .ret)))⟩
theorem c86:compFunc Tryz.prog 86=some a86:=by kernel_rfl
def Zc7 (r:Int):AV→Heap→Nat→Prop:=fun v h' n' => v=(I r)∧(h' = e0)∧n' = 0
def Z2a (scheme:Tx):Int :=
 if decide (scheme=[104,116,116,112]) then
  80
 else
  if decide (scheme=[104,116,116,112,115]) then
   443
  else
   0
theorem Zc8 {mL:Int}(scheme:Tx):CPure Tryz.prog (GG mL) 86 [(S scheme)] (I (Z2a scheme)):=by
 generalize h:Z2a scheme=o
 refine acalls_of_sv hmix c86 (R:=Zc7 o) ?_
 unfold Z2a at h
 refine ssr<|un1 rfl<|dnil<|Sv.seq<|ssr<|un1 rfl<|dnil<|Sv.block<|ssr<|un1 (v:=(B (decide (scheme=[104,116,116,112])))) rfl<|un1 rfl<|dnil ?_
 refine Sv.cnd rfl h (fun h=>?_) fun h=>?_
 ·refine ssr<|un1 rfl<|dnil<|Sv.ret ?_
  subst h
  exact ⟨_,.refl _,_,rfl,⟨upd e0 0 (some (I 80)),e0,0⟩,(I 80),weak_canon [] rfl ndl nll nlz (.cf rfl rfl .nil) .nil,rfl,rfl,rfl,rfl⟩
 ·refine ssr<|un1 (v:=(B (decide (scheme=[104,116,116,112,115])))) rfl<|un1 rfl<|dnil ?_
  refine Sv.cnd rfl h (fun h=>?_) fun h=>?_
  ·refine ssr<|un1 rfl<|dnil<|Sv.ret ?_
   subst h
   exact ⟨_,.refl _,_,rfl,⟨upd e0 0 (some (I 443)),e0,0⟩,(I 443),weak_canon [] rfl ndl nll nlz (.cf rfl rfl .nil) .nil,rfl,rfl,rfl,rfl⟩
  ·refine Sv.skip<|ssr<|un1 rfl<|dnil<|Sv.ret ?_
   subst h
   exact ⟨_,.refl _,_,rfl,⟨upd e0 0 (some (I 0)),e0,0⟩,(I 0),weak_canon [] rfl ndl nll nlz (.cf rfl rfl .nil) .nil,rfl,rfl,rfl,rfl⟩
def a59_c0:ACode:=(.cond (.tmp 41) (sr [(oP 4 (.mov kF))]
 .ret) .skip)
def a59_c1:ACode:=(sr [(oP 4 (.mov kT))]
 .ret)
def a59_c2:ACode:=(sr [(mV 43 6),(oP 44 (.call 85 [(.tmp 43)])),(mV 42 44),(oP 45 (.ext (.tmp 42) 0)),(oP 46 (.ext (.tmp 42) 1)),(mV 8 45),(mV 9 46)]
 (.seq (sr [(mV 47 8),(oP 48 (.bin .lss (.tmp 47) (kI 1))),(mV 49 48),⟨(some 50),(.mov (.tmp 8)),(some (49,false))⟩,⟨(some 51),(.bin .gtr (.tmp 50) (kI 65535)),(some (49,false))⟩,(oP 52 (.pick (.tmp 49) kT (.tmp 51)))]
 (.cond (.tmp 52) (sr [(oP 4 (.mov kF))]
 .ret) .skip))
 (.seq (sr [(mV 53 8),(mV 54 0),(oP 55 (.nilc (.tmp 54))),(oP 56 (.faddr 0 (.tmp 55))),(oP 57 (.load false 1 (.tmp 56))),(oP 58 (.call 86 [(.tmp 57)])),(oP 59 (.bin .neq (.tmp 53) (.tmp 58)))]
 (.cond (.tmp 59) (.region [(mV 60 0),(mV 61 8),(oP 62 (.nilc (.tmp 60))),(oP 63 (.faddr 2 (.tmp 62))),(oN (.store 1 (.tmp 63) (.tmp 61)))]) .skip))
 a59_c1)))
def a59:AFunc:=⟨2,[(.tmp 4)],(sr [(oP 4 (.mov kF))]
 (sr [(mV 11 1),(oP 12 (.call 44 [(.tmp 11),(.const (.c (.str [58])))])),(mV 10 12),(oP 13 (.ext (.tmp 10) 0)),(oP 14 (.ext (.tmp 10) 1)),(oP 15 (.ext (.tmp 10) 2)),(mV 5 13),(mV 6 14),(mV 7 15)]
 (sr [(mV 16 0),(mV 17 5),(oP 18 (.call 63 [(.tmp 17)])),(oP 19 (.nilc (.tmp 16))),(oP 20 (.faddr 1 (.tmp 19))),(oN (.store 1 (.tmp 20) (.tmp 18)))]
 (.seq (sr [(mV 21 0),(oP 22 (.nilc (.tmp 21))),(oP 23 (.faddr 1 (.tmp 22))),(oP 24 (.load false 1 (.tmp 23))),(oP 25 (.call 83 [(.tmp 24)])),(oP 26 (.un .not (.tmp 25)))]
 (.cond (.tmp 26) (sr [(oP 4 (.mov kF))]
 .ret) .skip))
 (.seq (sr [(mV 27 7),(oP 28 (.un .not (.tmp 27)))]
 (.cond (.tmp 28) (sr [(oP 4 (.mov kT))]
 .ret) .skip))
 (.seq (sr [(mV 29 6),(oP 30 (.lenS (.tmp 29))),(oP 31 (.bin .lss (.tmp 30) (kI 1))),(mV 32 31),⟨(some 33),(.mov (.tmp 6)),(some (32,false))⟩,⟨(some 34),(.lenS (.tmp 33)),(some (32,false))⟩,⟨(some 35),(.bin .gtr (.tmp 34) (kI 5)),(some (32,false))⟩,(oP 36 (.pick (.tmp 32) kT (.tmp 35))),(mV 37 36),⟨(some 38),(.mov (.tmp 6)),(some (37,false))⟩,⟨(some 39),(.call 84 [(.tmp 38),(.const (.c (.str [48,49,50,51,52,53,54,55,56,57])))]),(some (37,false))⟩,⟨(some 40),(.bin .neq (.tmp 39) (.const (.c (.str [])))),(some (37,false))⟩,(oP 41 (.pick (.tmp 37) kT (.tmp 40)))]
 a59_c0)
 a59_c2))))))⟩
theorem c59:compFunc Tryz.prog 59=some a59:=by kernel_rfl
def a59_url_place1_c0:ACode:=(.cond (.tmp 41) (sr [(oP 4 (.mov kF))]
 .ret) .skip)
def a59_url_place1_c1:ACode:=(sr [(oP 4 (.mov kT))]
 .ret)
def a59_url_place1_c2:ACode:=(sr [(mV 43 6),(oP 44 (.call 85 [(.tmp 43)])),(mV 42 44),(oP 45 (.ext (.tmp 42) 0)),(oP 46 (.ext (.tmp 42) 1)),(mV 8 45),(mV 9 46)]
 (.seq (sr [(mV 47 8),(oP 48 (.bin .lss (.tmp 47) (kI 1))),(mV 49 48),⟨(some 50),(.mov (.tmp 8)),(some (49,false))⟩,⟨(some 51),(.bin .gtr (.tmp 50) (kI 65535)),(some (49,false))⟩,(oP 52 (.pick (.tmp 49) kT (.tmp 51)))]
 (.cond (.tmp 52) (sr [(oP 4 (.mov kF))]
 .ret) .skip))
 (.seq (sr [(mV 53 8),(mV 54 0),(oP 55 (.nilc (.tmp 54))),(oP 56 (.faddr 0 (.tmp 55))),(oP 57 (.load false 1 (.tmp 56))),(oP 58 (.call 86 [(.tmp 57)])),(oP 59 (.bin .neq (.tmp 53) (.tmp 58)))]
 (.cond (.tmp 59) (.region [(mV 60 0),(mV 61 8),(oP 62 (.nilc (.tmp 60))),(oP 63 (.faddr 2 (.tmp 62))),(oN (.store 1 (.tmp 63) (.tmp 61)))]) .skip))
 a59_url_place1_c1)))
def Z3z (r:(Bool×TJUrl)):AV→Heap→Nat→Prop:=fun v h' n' => ∃ z0:Bool,(z0=true→r.2.Path=[])∧v=(B r.1)∧(h' = (upd (upd e0 0 (some (.cells 8 [[.str r.2.Scheme,.str r.2.Host,cI r.2.Port,lstC z0 2 1 r.2.Path.length,.str r.2.Query,cB r.2.Asks,.str r.2.Fragment,cB r.2.Points]]))) 2 (lstB z0 1 (r.2.Path.map eStr))))∧n' = 3
noncomputable def Z40 (u_:TJUrl) (r_1:Tx) (u2:Int) (u31:TT):Option (Bool×TJUrl) :=
 some (true,(⟨u_.Scheme,r_1,u2,u31,u_.Query,u_.Asks,u_.Fragment,u_.Points⟩:TJUrl))
theorem Z7y {mL:Int}{u_:TJUrl}{r_1:Tx}{u2:Int}{u31:TT}{zu31:Bool}(hzu31:zu31=true→u31=[]) {o:(Bool×TJUrl)}(h:Z40 u_ r_1 u2 u31=some o) :
  Sv Tryz.prog (GG mL) 2 a59_url_place1_c1 (Ends a59.results 2 (Z3z o)) ⟨(upd e0 0 (some (.c (.ref 0 8 0 0)))),(upd (upd e0 0 (some (.cells 8 [[.str u_.Scheme,.str r_1,cI u2,lstC zu31 1 1 u31.length,.str u_.Query,cB u_.Asks,.str u_.Fragment,cB u_.Points]]))) 1 (lstB zu31 1 (u31.map eStr))),2⟩:=by
 unfold Z40 at h
 refine ssr<|un1 rfl<|dnil<|Sv.ret ?_
 replace h:=Option.some.inj h
 subst h
 exact ⟨_,.refl _,_,rfl,⟨upd e0 0 (some (B true)),(upd (upd e0 0 (some (.cells 8 [[.str u_.Scheme,.str r_1,cI u2,lstC zu31 2 1 u31.length,.str u_.Query,cB u_.Asks,.str u_.Fragment,cB u_.Points]]))) 2 (lstB zu31 1 (u31.map eStr))),3⟩,(B true),weak_canon2 [0,1,1] [0,2] (by decide) (by decide) (by decide) (.cons (by decide) (.cons (by decide) .nil)) (.cf rfl rfl .nil) (.row (by decide) rfl (fr_map fun _=>rfl) (.box (by decide) rfl (blkAs_cells (.sm rfl (.sm rfl (.sm rfl (.cons (lstC_ren rfl (by decide)) (.sm rfl (.sm rfl (.sm rfl (.sm rfl .nil))))))))) .nil)),rfl,zu31,hzu31,rfl,rfl,rfl⟩
abbrev Zc9 (mL:Int) (o:(Bool×TJUrl)):AExit→St→Prop:=AThen (Sv Tryz.prog (GG mL) 2 a59_url_place1_c2 (Ends a59.results 2 (Z3z o))) (Ends a59.results 2 (Z3z o))
noncomputable def Z2z (u_:TJUrl) (r_1:Tx) (r_:(Tx×Tx×Bool)) (u3:TT) (v41:Bool):Option (Bool×TJUrl) :=
 if v41 then
  some (false,(⟨u_.Scheme,r_1,u_.Port,u3,u_.Query,u_.Asks,u_.Fragment,u_.Points⟩:TJUrl))
 else
  (Z6c r_.2.1).bind fun r_3 =>
  if ((decide (r_3.1<1))||(decide (65535<r_3.1))) then
   some (false,(⟨u_.Scheme,r_1,u_.Port,u3,u_.Query,u_.Asks,u_.Fragment,u_.Points⟩:TJUrl))
  else
   if (!decide (r_3.1=(Z2a u_.Scheme))) then
    Z40 u_ r_1 r_3.1 u3
   else
    Z40 u_ r_1 u_.Port u3
theorem Z7z {mL:Int}{u_:TJUrl}{r_1:Tx}{r_:(Tx×Tx×Bool)}{u3:TT}{v41:Bool}{zu3:Bool}(hzu3:zu3=true→u3=[]) {o:(Bool×TJUrl)}(h:Z2z u_ r_1 r_ u3 v41=some o) :
  Sv Tryz.prog (GG mL) 2 a59_url_place1_c0 (Zc9 mL o) ⟨(ue [(41,(B v41)),(6,(S r_.2.1)),(0,(.c (.ref 0 8 0 0)))]),(upd (upd e0 0 (some (.cells 8 [[.str u_.Scheme,.str r_1,cI u_.Port,lstC zu3 1 1 u3.length,.str u_.Query,cB u_.Asks,.str u_.Fragment,cB u_.Points]]))) 1 (lstB zu3 1 (u3.map eStr))),2⟩:=by
 unfold Z2z at h
 refine Sv.cnd rfl h (fun h=>?_) fun h=>?_
 ·refine ssr<|un1 rfl<|dnil<|Sv.ret ?_
  replace h:=Option.some.inj h
  subst h
  exact ⟨_,.refl _,_,rfl,⟨upd e0 0 (some (B false)),(upd (upd e0 0 (some (.cells 8 [[.str u_.Scheme,.str r_1,cI u_.Port,lstC zu3 2 1 u3.length,.str u_.Query,cB u_.Asks,.str u_.Fragment,cB u_.Points]]))) 2 (lstB zu3 1 (u3.map eStr))),3⟩,(B false),weak_canon2 [0,1,1] [0,2] (by decide) (by decide) (by decide) (.cons (by decide) (.cons (by decide) .nil)) (.cf rfl rfl .nil) (.row (by decide) rfl (fr_map fun _=>rfl) (.box (by decide) rfl (blkAs_cells (.sm rfl (.sm rfl (.sm rfl (.cons (lstC_ren rfl (by decide)) (.sm rfl (.sm rfl (.sm rfl (.sm rfl .nil))))))))) .nil)),rfl,zu3,hzu3,rfl,rfl,rfl⟩
 ·refine Sv.skip<|ssr<|un1 rfl ?_
  obtain ⟨r_3,hr4,h⟩:=bnd h
  refine un<|ac_pure (Zc6 hr4) rfl rfl (by simp only [AV.free,freeL,List.all_cons,List.all_nil,errC_free,ierrC_free] <;> rfl)<|un1 rfl<|un1 (v:=(I r_3.1)) rfl<|un1 (v:=(.c (errC r_3.2))) rfl<|un1 rfl<|un1 rfl<|dnil<|Sv.seq<|ssr<|un1 rfl<|un1 (v:=(B (decide (r_3.1<1)))) rfl<|un1 rfl ?_
  refine gjoin 3 (d:=52) (v:=(B ((decide (r_3.1<1))||(decide (65535<r_3.1))))) (fun X hX=>?_) ?_
  ·refine split2 (fun hc4=>?_) (fun hc4=>?_)
   ·refine gs rfl rfl<|gs rfl rfl<|un1 (v:=(B true)) rfl<|dnil ?_
    exact hX _ (.putEq (by rw [hc4]; rfl) (.skp (.skp (.putEq (by rw [hc4]) (.refl _)) rfl) rfl))
   ·refine gt rfl<|a1 rfl<|gt rfl<|a1 (v:=(B (decide (65535<r_3.1)))) rfl<|un1 (v:=(B (decide (65535<r_3.1)))) rfl<|dnil ?_
    exact hX _ (.putEq (by rw [hc4]; rfl) (.skp (.skp (.putEq (by rw [hc4]) (.refl _)) rfl) rfl))
  refine dnil ?_
  refine Sv.cnd rfl h (fun h=>?_) fun h=>?_
  ·refine ssr<|un1 rfl<|dnil<|Sv.ret ?_
   replace h:=Option.some.inj h
   subst h
   exact ⟨_,.refl _,_,rfl,⟨upd e0 0 (some (B false)),(upd (upd e0 0 (some (.cells 8 [[.str u_.Scheme,.str r_1,cI u_.Port,lstC zu3 2 1 u3.length,.str u_.Query,cB u_.Asks,.str u_.Fragment,cB u_.Points]]))) 2 (lstB zu3 1 (u3.map eStr))),3⟩,(B false),weak_canon2 [0,1,1] [0,2] (by decide) (by decide) (by decide) (.cons (by decide) (.cons (by decide) .nil)) (.cf rfl rfl .nil) (.row (by decide) rfl (fr_map fun _=>rfl) (.box (by decide) rfl (blkAs_cells (.sm rfl (.sm rfl (.sm rfl (.cons (lstC_ren rfl (by decide)) (.sm rfl (.sm rfl (.sm rfl (.sm rfl .nil))))))))) .nil)),rfl,zu3,hzu3,rfl,rfl,rfl⟩
  ·refine Sv.skip<|Sv.seq<|ssr<|un1 rfl<|un1 rfl<|un1 (v:=(.c (.ref 0 8 0 0))) rfl<|un1 (v:=(.c (.ref 0 8 0 0))) rfl<|un1 (v:=(S u_.Scheme)) rfl<|un<|ac_pure (Zc8 (mL:=mL) u_.Scheme) rfl rfl rfl<|un1 (v:=(B (!decide (r_3.1=(Z2a u_.Scheme))))) rfl<|dnil ?_
   refine Sv.cnd rfl h (fun h=>?_) fun h=>?_
   ·refine srg<|un1 rfl<|un1 rfl<|un1 (v:=(.c (.ref 0 8 0 0))) rfl<|un1 (v:=(.c (.ref 0 8 0 2))) rfl<|un<|a2n (h' := upd _ 0 (some (.cells 8 [[.str u_.Scheme,.str r_1,cI r_3.1,lstC zu3 1 1 u3.length,.str u_.Query,cB u_.Asks,.str u_.Fragment,cB u_.Points]]))) (n' := 2) rfl rfl hcs<|dnil ?_
    exact Sv.weak (weak_canon [0,1] rfl (by decide) (by decide) (by decide) (.cr rfl rfl rfl .nil) (.row (by decide) rfl (fr_map fun _=>rfl) (.box (by decide) rfl (blkAs_cells (.sm rfl (.sm rfl (.sm rfl (.cons (lstC_ren rfl (by decide)) (.sm rfl (.sm rfl (.sm rfl (.sm rfl .nil))))))))) .nil))) (Z7y hzu3 h)
   ·refine Sv.skip ?_
    exact Sv.weak (weak_canon [0,1] rfl (by decide) (by decide) (by decide) (.cr rfl rfl rfl .nil) (.row (by decide) rfl (fr_map fun _=>rfl) (.box (by decide) rfl (blkAs_cells (.sm rfl (.sm rfl (.sm rfl (.cons (lstC_ren rfl (by decide)) (.sm rfl (.sm rfl (.sm rfl (.sm rfl .nil))))))))) .nil))) (Z7y hzu3 h)
noncomputable def Z41 (u_:TJUrl) (s_:Tx):Option (Bool×TJUrl) :=
 (Z3v s_ [58]).bind fun r_ =>
 (Z28 r_.1).bind fun r_1 =>
 (Z3y r_1).bind fun r_2 =>
 if (!r_2) then
  some (false,(⟨u_.Scheme,r_1,u_.Port,u_.Path,u_.Query,u_.Asks,u_.Fragment,u_.Points⟩:TJUrl))
 else
  if (!r_.2.2) then
   some (true,(⟨u_.Scheme,r_1,u_.Port,u_.Path,u_.Query,u_.Asks,u_.Fragment,u_.Points⟩:TJUrl))
  else
   if ((decide ((r_.2.1.length:Int)<1))||(decide (5<(r_.2.1.length:Int)))) then
    Z2z u_ r_1 r_ u_.Path true
   else
    (Z3w r_.2.1 [48,49,50,51,52,53,54,55,56,57]).bind fun r_4 =>
    Z2z u_ r_1 r_ u_.Path (!decide (r_4=[]))
theorem Zca {mL:Int}{u_:TJUrl}{s_:Tx}{zu:Bool}(hzu:zu=true→u_.Path=[]) {r:(Bool×TJUrl)}(h:Z41 u_ s_=some r):ACalls Tryz.prog (GG mL) 59 [(.c (.ref 0 8 0 0)),(S s_)] (upd (upd e0 0 (some (.cells 8 [[.str u_.Scheme,.str u_.Host,cI u_.Port,lstC zu 1 1 u_.Path.length,.str u_.Query,cB u_.Asks,.str u_.Fragment,cB u_.Points]]))) 1 (lstB zu 1 (u_.Path.map eStr))) 2 (Z3z r):=by
 refine acalls_of_sv hmix c59 (R:=Z3z r) ?_
 unfold Z41 at h
 refine ssr<|un1 rfl<|dnil<|ssr<|un1 rfl ?_
 obtain ⟨r_,hr1,h⟩:=bnd h
 refine un<|ac_pure (Z5a hr1) rfl rfl rfl<|un1 rfl<|un1 (v:=(S r_.1)) rfl<|un1 (v:=(S r_.2.1)) rfl<|un1 (v:=(B r_.2.2)) rfl<|un1 rfl<|un1 rfl<|un1 rfl<|dnil<|ssr<|un1 rfl<|un1 rfl ?_
 obtain ⟨r_1,hr2,h⟩:=bnd h
 refine un<|ac_pure (Z7i hr2) rfl rfl rfl<|un1 (v:=(.c (.ref 0 8 0 0))) rfl<|un1 (v:=(.c (.ref 0 8 0 1))) rfl<|un<|a2n (h' := upd _ 0 (some (.cells 8 [[.str u_.Scheme,.str r_1,cI u_.Port,lstC zu 1 1 u_.Path.length,.str u_.Query,cB u_.Asks,.str u_.Fragment,cB u_.Points]]))) (n' := 2) rfl rfl hcs<|dnil<|Sv.seq<|ssr<|un1 rfl<|un1 (v:=(.c (.ref 0 8 0 0))) rfl<|un1 (v:=(.c (.ref 0 8 0 1))) rfl<|un1 (v:=(S r_1)) rfl ?_
 obtain ⟨r_2,hr3,h⟩:=bnd h
 refine un<|ac_pure (Zc5 hr3) rfl rfl rfl<|un1 (v:=(B (!r_2))) rfl<|dnil ?_
 refine Sv.cnd rfl h (fun h=>?_) fun h=>?_
 ·refine ssr<|un1 rfl<|dnil<|Sv.ret ?_
  replace h:=Option.some.inj h
  subst h
  exact ⟨_,.refl _,_,rfl,⟨upd e0 0 (some (B false)),(upd (upd e0 0 (some (.cells 8 [[.str u_.Scheme,.str r_1,cI u_.Port,lstC zu 2 1 u_.Path.length,.str u_.Query,cB u_.Asks,.str u_.Fragment,cB u_.Points]]))) 2 (lstB zu 1 (u_.Path.map eStr))),3⟩,(B false),weak_canon2 [0,1,1] [0,2] (by decide) (by decide) (by decide) (.cons (by decide) (.cons (by decide) .nil)) (.cf rfl rfl .nil) (.row (by decide) rfl (fr_map fun _=>rfl) (.box (by decide) rfl (blkAs_cells (.sm rfl (.sm rfl (.sm rfl (.cons (lstC_ren rfl (by decide)) (.sm rfl (.sm rfl (.sm rfl (.sm rfl .nil))))))))) .nil)),rfl,zu,hzu,rfl,rfl,rfl⟩
 ·refine Sv.skip<|Sv.seq<|ssr<|un1 rfl<|un1 (v:=(B (!r_.2.2))) rfl<|dnil ?_
  refine Sv.cnd rfl h (fun h=>?_) fun h=>?_
  ·refine ssr<|un1 rfl<|dnil<|Sv.ret ?_
   replace h:=Option.some.inj h
   subst h
   exact ⟨_,.refl _,_,rfl,⟨upd e0 0 (some (B true)),(upd (upd e0 0 (some (.cells 8 [[.str u_.Scheme,.str r_1,cI u_.Port,lstC zu 2 1 u_.Path.length,.str u_.Query,cB u_.Asks,.str u_.Fragment,cB u_.Points]]))) 2 (lstB zu 1 (u_.Path.map eStr))),3⟩,(B true),weak_canon2 [0,1,1] [0,2] (by decide) (by decide) (by decide) (.cons (by decide) (.cons (by decide) .nil)) (.cf rfl rfl .nil) (.row (by decide) rfl (fr_map fun _=>rfl) (.box (by decide) rfl (blkAs_cells (.sm rfl (.sm rfl (.sm rfl (.cons (lstC_ren rfl (by decide)) (.sm rfl (.sm rfl (.sm rfl (.sm rfl .nil))))))))) .nil)),rfl,zu,hzu,rfl,rfl,rfl⟩
  ·refine Sv.skip<|Sv.seq<|ssr<|un1 rfl<|un1 (v:=(I (r_.2.1.length:Int))) rfl<|un1 (v:=(B (decide ((r_.2.1.length:Int)<1)))) rfl<|un1 rfl ?_
   refine gjoin 4 (d:=36) (v:=(B ((decide ((r_.2.1.length:Int)<1))||(decide (5<(r_.2.1.length:Int)))))) (fun X hX=>?_) ?_
   ·refine split2 (fun hc7=>?_) (fun hc7=>?_)
    ·refine gs rfl rfl<|gs rfl rfl<|gs rfl rfl<|un1 (v:=(B true)) rfl<|dnil ?_
     exact hX _ (.putEq (by rw [hc7]; rfl) (.skp (.skp (.skp (.putEq (by rw [hc7]) (.refl _)) rfl) rfl) rfl))
    ·refine gt rfl<|a1 rfl<|gt rfl<|a1 (v:=(I (r_.2.1.length:Int))) rfl<|gt rfl<|a1 (v:=(B (decide (5<(r_.2.1.length:Int))))) rfl<|un1 (v:=(B (decide (5<(r_.2.1.length:Int))))) rfl<|dnil ?_
     exact hX _ (.putEq (by rw [hc7]; rfl) (.skp (.skp (.skp (.putEq (by rw [hc7]) (.refl _)) rfl) rfl) rfl))
   refine un1 rfl ?_
   refine spl h (fun h=>?_) fun h=>?_
   ·refine gs rfl rfl<|gs rfl rfl<|gs rfl rfl<|un1 (v:=(B true)) rfl<|dnil ?_
    exact Sv.weak (weak_canon [0,1] rfl (by decide) (by decide) (by decide) (.cf rfl rfl (.cf rfl rfl (.cr rfl rfl rfl .nil))) (.row (by decide) rfl (fr_map fun _=>rfl) (.box (by decide) rfl (blkAs_cells (.sm rfl (.sm rfl (.sm rfl (.cons (lstC_ren rfl (by decide)) (.sm rfl (.sm rfl (.sm rfl (.sm rfl .nil))))))))) .nil))) (Z7z hzu h)
   ·refine gt rfl<|a1 rfl ?_
    obtain ⟨r_4,hr5,h⟩:=bnd h
    refine gt rfl<|ac_pure (Z7t hr5) rfl rfl rfl<|gt rfl<|a1 (v:=(B (!decide (r_4=[])))) rfl<|un1 (v:=(B (!decide (r_4=[])))) rfl<|dnil ?_
    exact Sv.weak (weak_canon [0,1] rfl (by decide) (by decide) (by decide) (.cf rfl rfl (.cf rfl rfl (.cr rfl rfl rfl .nil))) (.row (by decide) rfl (fr_map fun _=>rfl) (.box (by decide) rfl (blkAs_cells (.sm rfl (.sm rfl (.sm rfl (.cons (lstC_ren rfl (by decide)) (.sm rfl (.sm rfl (.sm rfl (.sm rfl .nil))))))))) .nil))) (Z7z hzu h)
def a138_c0:ACode:=(sr [(mV 11 0),(oP 12 (.call 91 [(.const (.c (.str [48,49,50,51,52,53,54,55,56,57,65,66,67,68,69,70]))),(.tmp 11)])),(mV 2 12)]
 .ret)
def a138:AFunc:=⟨1,[(.tmp 2)],(sr [(oP 2 (.mov (kI 0)))]
 (.seq (sr [(mV 3 0),(oP 4 (.bin .geq (.tmp 3) (.const (.c (.val (.int .u8 97)))))),(mV 5 4),⟨(some 6),(.mov (.tmp 0)),(some (5,true))⟩,⟨(some 7),(.bin .leq (.tmp 6) (.const (.c (.val (.int .u8 102))))),(some (5,true))⟩,(oP 8 (.pick (.tmp 5) (.tmp 7) kF))]
 (.cond (.tmp 8) (.region [(mV 9 0),(oP 10 (.bin .sub (.tmp 9) (.const (.c (.val (.int .u8 32)))))),(mV 0 10)]) .skip))
 a138_c0))⟩
theorem c138:compFunc Tryz.prog 138=some a138:=by kernel_rfl
def Z80 (r:Int):AV→Heap→Nat→Prop:=fun v h' n' => v=(I r)∧(h' = e0)∧n' = 0
noncomputable def Z5c (c_1:Int):Option Int :=
 (Z65 [48,49,50,51,52,53,54,55,56,57,65,66,67,68,69,70] c_1).bind fun r_ =>
 some r_
theorem Z81 {mL:Int}{c_1:Int}{o:Int}(h:Z5c c_1=some o) :
  Sv Tryz.prog (GG mL) 0 a138_c0 (Ends a138.results 0 (Z80 o)) ⟨(upd e0 0 (some (.c (.val (.int .u8 c_1))))),e0,0⟩:=by
 unfold Z5c at h
 refine ssr<|un1 rfl ?_
 obtain ⟨r_,hr1,h⟩:=bnd h
 refine un<|ac_pure (Z7k hr1) rfl rfl rfl<|un1 rfl<|dnil<|Sv.ret ?_
 exact rt0 h rfl rfl ⟨rfl,rfl,rfl⟩
noncomputable def Z1m (c_:Int):Option Int :=
 if ((decide (97≤c_))&&(decide (c_≤102))) then
  Z5c (wr .u8 (c_ - 32))
 else
  Z5c c_
theorem Z5d {mL:Int}{c_:Int}{r:Int}(h:Z1m c_=some r):CPure Tryz.prog (GG mL) 138 [(.c (.val (.int .u8 c_)))] (I r):=by
 refine acalls_of_sv hmix c138 (R:=Z80 r) ?_
 unfold Z1m at h
 refine ssr<|un1 rfl<|dnil<|Sv.seq<|ssr<|un1 rfl<|un1 (v:=(B (decide (97≤c_)))) rfl<|un1 rfl ?_
 refine gjoin 3 (d:=8) (v:=(B ((decide (97≤c_))&&(decide (c_≤102))))) (fun X hX=>?_) ?_
 ·refine split2 (fun hc1=>?_) (fun hc1=>?_)
  ·refine gt rfl<|a1 rfl<|gt rfl<|a1 (v:=(B (decide (c_≤102)))) rfl<|un1 (v:=(B (decide (c_≤102)))) rfl<|dnil ?_
   exact hX _ (.putEq (by rw [hc1]; rfl) (.skp (.skp (.putEq (by rw [hc1]) (.refl _)) rfl) rfl))
  ·refine gs rfl rfl<|gs rfl rfl<|un1 (v:=(B false)) rfl<|dnil ?_
   exact hX _ (.putEq (by rw [hc1]; rfl) (.skp (.skp (.putEq (by rw [hc1]) (.refl _)) rfl) rfl))
 refine dnil ?_
 refine Sv.cnd rfl h (fun h=>?_) fun h=>?_
 ·refine srg<|un1 rfl<|un1 (v:=(.c (.val (.int .u8 (wr .u8 (c_ - 32)))))) rfl<|un1 rfl<|dnil ?_
  exact Sv.weak (wcn [] rfl (.cf rfl rfl .nil) .nil) (Z81 h)
 ·refine Sv.skip ?_
  exact Sv.weak (wcn [] rfl (.cf rfl rfl .nil) .nil) (Z81 h)
def a115_c0:ACode:=(.cond (.tmp 23) (sr [(oP 2 (.mov (.const (.c (.val (.int .u8 0)))))),(oP 3 (.mov (kI 0)))]
 .ret) .skip)
def a115_c1:ACode:=(.seq (.drawn (.fin [((mV 24 0),(0,0)),((oP 25 (.idxS (.tmp 24) (kI 1))),(0,1)),((mV 28 0),(0,4)),((oP 29 (.idxS (.tmp 28) (kI 2))),(0,5)),((oP 26 (.call 138 [(.tmp 25)])),(2,2)),((oP 27 (.bin .shl (.tmp 26) (.const (.c (.val (.int .u64 4)))))),(0,3)),((oP 30 (.call 138 [(.tmp 29)])),(2,6)),((oP 31 (.bin .or (.tmp 27) (.tmp 30))),(0,7)),((oP 32 (.conv .u8 (.tmp 31))),(0,8)),((mV 2 32),(0,9)),((oP 3 (.mov (kI 3))),(0,10))]))
 .ret)
def a115:AFunc:=⟨1,[(.tmp 2),(.tmp 3)],(sr [(oP 2 (.mov (.const (.c (.val (.int .u8 0)))))),(oP 3 (.mov (kI 0)))]
 (.seq (sr [(mV 4 0),(oP 5 (.idxS (.tmp 4) (kI 0))),(oP 6 (.bin .neq (.tmp 5) (.const (.c (.val (.int .u8 37))))))]
 (.cond (.tmp 6) (sr [(mV 7 0),(oP 8 (.idxS (.tmp 7) (kI 0))),(mV 2 8),(oP 3 (.mov (kI 1)))]
 .ret) .skip))
 (.seq (sr [(mV 9 0),(oP 10 (.lenS (.tmp 9))),(oP 11 (.bin .lss (.tmp 10) (kI 3))),(mV 12 11),⟨(some 13),(.mov (.tmp 0)),(some (12,false))⟩,⟨(some 14),(.idxS (.tmp 13) (kI 1)),(some (12,false))⟩,⟨(some 15),(.call 138 [(.tmp 14)]),(some (12,false))⟩,⟨(some 16),(.bin .lss (.tmp 15) (kI 0)),(some (12,false))⟩,(oP 17 (.pick (.tmp 12) kT (.tmp 16))),(mV 18 17),⟨(some 19),(.mov (.tmp 0)),(some (18,false))⟩,⟨(some 20),(.idxS (.tmp 19) (kI 2)),(some (18,false))⟩,⟨(some 21),(.call 138 [(.tmp 20)]),(some (18,false))⟩,⟨(some 22),(.bin .lss (.tmp 21) (kI 0)),(some (18,false))⟩,(oP 23 (.pick (.tmp 18) kT (.tmp 22)))]
 a115_c0)
 a115_c1)))⟩
theorem c115:compFunc Tryz.prog 115=some a115:=by kernel_rfl
def Z6d (r:(Int×Int)):AV→Heap→Nat→Prop:=fun v h' n' => v=(.tup [(.c (.val (.int .u8 r.1))),(I r.2)])∧(h' = e0)∧n' = 0
abbrev Zcb (mL:Int) (o:(Int×Int)):AExit→St→Prop:=AThen (Sv Tryz.prog (GG mL) 0 a115_c1 (Ends a115.results 0 (Z6d o))) (Ends a115.results 0 (Z6d o))
noncomputable def Z1n (s_:Tx) (v23:Bool):Option (Int×Int) :=
 if v23 then
  some (0,0)
 else
  (at? s_ 1).bind fun c_2 =>
  (at? s_ 2).bind fun c_3 =>
  (Z1m (c_2.toNat:Int)).bind fun r_ =>
  (Z1m (c_3.toNat:Int)).bind fun r_1 =>
  some ((wr .u8 (bitsV .or .i64 (shl .i64 r_ 4) r_1)),3)
theorem Z6e {mL:Int}{s_:Tx}{v23:Bool}{o:(Int×Int)}(h:Z1n s_ v23=some o) :
  Sv Tryz.prog (GG mL) 0 a115_c0 (Zcb mL o) ⟨(ue [(23,(B v23)),(0,(S s_))]),e0,0⟩:=by
 unfold Z1n at h
 refine Sv.cnd rfl h (fun h=>?_) fun h=>?_
 ·refine ssr<|un1 rfl<|un1 rfl<|dnil<|Sv.ret ?_
  exact rt0 h rfl rfl ⟨rfl,rfl,rfl⟩
 ·refine Sv.skip<|Sv.seq<|Sv.drawn<|un1 rfl ?_
  obtain ⟨c_2,hx3,h⟩:=bnd h
  refine un1 (v:=(.c (.val (.int .u8 (c_2.toNat:Int))))) (s_idxS rfl rfl hx3)<|un1 rfl ?_
  obtain ⟨c_3,hx4,h⟩:=bnd h
  refine un1 (v:=(.c (.val (.int .u8 (c_3.toNat:Int))))) (s_idxS rfl rfl hx4) ?_
  obtain ⟨r_,hr1,h⟩:=bnd h
  refine un<|ac_pure (Z5d hr1) rfl rfl rfl<|un1 (v:=(I (shl .i64 r_ 4))) rfl ?_
  obtain ⟨r_1,hr2,h⟩:=bnd h
  refine un<|ac_pure (Z5d hr2) rfl rfl rfl<|un1 (v:=(I (bitsV .or .i64 (shl .i64 r_ 4) r_1))) rfl<|un1 (v:=(.c (.val (.int .u8 (wr .u8 (bitsV .or .i64 (shl .i64 r_ 4) r_1)))))) rfl<|un1 rfl<|un1 rfl<|dnil<|Sv.ret ?_
  exact rt0 h rfl rfl ⟨rfl,rfl,rfl⟩
noncomputable def Zw (s_:Tx):Option (Int×Int) :=
 (at? s_ 0).bind fun c_ =>
 if (!decide ((c_.toNat:Int)=37)) then
  (at? s_ 0).bind fun c_1 =>
  some ((c_1.toNat:Int),1)
 else
  if decide ((s_.length:Int)<3) then
   Z1n s_ true
  else
   (at? s_ 1).bind fun c_4 =>
   (Z1m (c_4.toNat:Int)).bind fun r_2 =>
   if decide (r_2<0) then
    Z1n s_ true
   else
    (at? s_ 2).bind fun c_5 =>
    (Z1m (c_5.toNat:Int)).bind fun r_3 =>
    Z1n s_ (decide (r_3<0))
theorem Z82 {mL:Int}{s_:Tx}{r:(Int×Int)}(h:Zw s_=some r):CPure Tryz.prog (GG mL) 115 [(S s_)] (.tup [(.c (.val (.int .u8 r.1))),(I r.2)]):=by
 refine acalls_of_sv hmix c115 (R:=Z6d r) ?_
 unfold Zw at h
 refine ssr<|un1 rfl<|un1 rfl<|dnil<|Sv.seq<|ssr<|un1 rfl ?_
 obtain ⟨c_,hx1,h⟩:=bnd h
 refine un1 (v:=(.c (.val (.int .u8 (c_.toNat:Int))))) (s_idxS rfl rfl hx1)<|un1 (v:=(B (!decide ((c_.toNat:Int)=37)))) rfl<|dnil ?_
 refine Sv.cnd rfl h (fun h=>?_) fun h=>?_
 ·refine ssr<|un1 rfl ?_
  obtain ⟨c_1,hx2,h⟩:=bnd h
  refine un1 (v:=(.c (.val (.int .u8 (c_1.toNat:Int))))) (s_idxS rfl rfl hx2)<|un1 rfl<|un1 rfl<|dnil<|Sv.ret ?_
  exact rt0 h rfl rfl ⟨rfl,rfl,rfl⟩
 ·refine Sv.skip<|Sv.seq<|ssr<|un1 rfl<|un1 (v:=(I (s_.length:Int))) rfl<|un1 (v:=(B (decide ((s_.length:Int)<3)))) rfl<|un1 rfl ?_
  refine spl h (fun h=>?_) fun h=>?_
  ·refine gs rfl rfl<|gs rfl rfl<|gs rfl rfl<|gs rfl rfl<|un1 (v:=(B true)) rfl<|un1 rfl<|gs rfl rfl<|gs rfl rfl<|gs rfl rfl<|gs rfl rfl<|un1 (v:=(B true)) rfl<|dnil ?_
   exact Sv.weak (wcn [] rfl (.cf rfl rfl (.cf rfl rfl .nil)) .nil) (Z6e h)
  ·refine gt rfl<|a1 rfl ?_
   obtain ⟨c_4,hx5,h⟩:=bnd h
   refine gt rfl<|a1 (v:=(.c (.val (.int .u8 (c_4.toNat:Int))))) (s_idxS rfl rfl hx5) ?_
   obtain ⟨r_2,hr3,h⟩:=bnd h
   refine gt rfl<|ac_pure (Z5d hr3) rfl rfl rfl<|gt rfl<|a1 (v:=(B (decide (r_2<0)))) rfl<|un1 (v:=(B (decide (r_2<0)))) rfl<|un1 rfl ?_
   refine spl h (fun h=>?_) fun h=>?_
   ·refine gs rfl rfl<|gs rfl rfl<|gs rfl rfl<|gs rfl rfl<|un1 (v:=(B true)) rfl<|dnil ?_
    exact Sv.weak (wcn [] rfl (.cf rfl rfl (.cf rfl rfl .nil)) .nil) (Z6e h)
   ·refine gt rfl<|a1 rfl ?_
    obtain ⟨c_5,hx6,h⟩:=bnd h
    refine gt rfl<|a1 (v:=(.c (.val (.int .u8 (c_5.toNat:Int))))) (s_idxS rfl rfl hx6) ?_
    obtain ⟨r_3,hr4,h⟩:=bnd h
    refine gt rfl<|ac_pure (Z5d hr4) rfl rfl rfl<|gt rfl<|a1 (v:=(B (decide (r_3<0)))) rfl<|un1 (v:=(B (decide (r_3<0)))) rfl<|dnil ?_
    exact Sv.weak (wcn [] rfl (.cf rfl rfl (.cf rfl rfl .nil)) .nil) (Z6e h)
def a94_c0:ACode:=.ret
def a94:AFunc:=⟨1,[(.tmp 2)],(sr [(oP 2 (.mov kF))]
 (sr [(mV 3 0),(oP 4 (.call 64 [(.tmp 3)])),(mV 5 4),⟨(some 6),(.mov (.tmp 0)),(some (5,false))⟩,⟨(some 7),(.call 65 [(.tmp 6),(.const (.c (.str [48,49,50,51,52,53,54,55,56,57,45,46,95,126])))]),(some (5,false))⟩,(oP 8 (.pick (.tmp 5) kT (.tmp 7))),(mV 2 8)]
 a94_c0))⟩
theorem c94:compFunc Tryz.prog 94=some a94:=by kernel_rfl
def Z83 (r:Bool):AV→Heap→Nat→Prop:=fun v h' n' => v=(B r)∧(h' = e0)∧n' = 0
noncomputable def Z5e (v2:Bool):Option Bool :=
 some v2
theorem Z84 {mL:Int}{v2:Bool}{o:Bool}(h:Z5e v2=some o) :
  Sv Tryz.prog (GG mL) 0 a94_c0 (Ends a94.results 0 (Z83 o)) ⟨(upd e0 2 (some (B v2))),e0,0⟩:=by
 unfold Z5e at h
 refine Sv.ret ?_
 exact rt0 h rfl rfl ⟨rfl,rfl,rfl⟩
noncomputable def Z1o (c_:Int):Option Bool :=
 if (Z1l c_) then
  Z5e true
 else
  (Zu c_ [48,49,50,51,52,53,54,55,56,57,45,46,95,126]).bind fun r_ =>
  Z5e r_
theorem Z85 {mL:Int}{c_:Int}{r:Bool}(h:Z1o c_=some r):CPure Tryz.prog (GG mL) 94 [(.c (.val (.int .u8 c_)))] (B r):=by
 refine acalls_of_sv hmix c94 (R:=Z83 r) ?_
 unfold Z1o at h
 refine ssr<|un1 rfl<|dnil<|ssr<|un1 rfl<|un<|ac_pure (Z7j (mL:=mL) c_) rfl rfl rfl<|un1 rfl ?_
 refine spl h (fun h=>?_) fun h=>?_
 ·refine gs rfl rfl<|gs rfl rfl<|un1 (v:=(B true)) rfl<|un1 rfl<|dnil ?_
  exact Sv.weak (wcn [] rfl (.cf rfl rfl .nil) .nil) (Z84 h)
 ·refine gt rfl<|a1 rfl ?_
  obtain ⟨r_,hr1,h⟩:=bnd h
  refine gt rfl<|ac_pure (Z66 hr1) rfl rfl rfl<|un1 (v:=(B r_)) rfl<|un1 rfl<|dnil ?_
  exact Sv.weak (wcn [] rfl (.cf rfl rfl .nil) .nil) (Z84 h)
noncomputable abbrev Z42 (l:List UInt8) (x0:Int):Option Tx:=bWriteByte? l x0
theorem Z6f {mL:Int}{z:Bool}{l:List UInt8}{x0:Int}{r:List UInt8}(hz:z=true→l=[]) (h:Z42 l x0=some r):ACalls Tryz.prog (GG mL) 95 [.c (.ref 0 2 0 0),(.c (.val (.int .u8 x0)))] (bldH 90 5 z l) 2 (bPost 90 5 (.c (.val .nilIface)) r):=bWriteByte_ok blays b167 hz h
def a96:AFunc:=⟨1,[(.tmp 2)],(sr [(oP 2 (.mov (.const (.c (.str [])))))]
 (.seq (.drawn (.fin [((mV 3 0),(0,0)),((oP 4 (.bin .shr (.tmp 3) (.const (.c (.val (.int .u64 4)))))),(0,1)),((mV 5 0),(0,2)),((oP 6 (.bin .shr (.tmp 5) (.const (.c (.val (.int .u64 4)))))),(0,3)),((oP 7 (.bin .add (.tmp 6) (.const (.c (.val (.int .u8 1)))))),(0,4)),((oP 8 (.slStr (.const (.c (.str [48,49,50,51,52,53,54,55,56,57,65,66,67,68,69,70]))) (some (.tmp 4)) (some (.tmp 7)))),(0,5)),((oP 9 (.bin .add (.const (.c (.str [37]))) (.tmp 8))),(0,6)),((mV 10 0),(0,7)),((oP 11 (.bin .and (.tmp 10) (.const (.c (.val (.int .u8 15)))))),(0,8)),((mV 12 0),(0,9)),((oP 13 (.bin .and (.tmp 12) (.const (.c (.val (.int .u8 15)))))),(0,10)),((oP 14 (.bin .add (.tmp 13) (.const (.c (.val (.int .u8 1)))))),(0,11)),((oP 15 (.slStr (.const (.c (.str [48,49,50,51,52,53,54,55,56,57,65,66,67,68,69,70]))) (some (.tmp 11)) (some (.tmp 14)))),(0,12)),((oP 16 (.bin .add (.tmp 9) (.tmp 15))),(0,13)),((mV 2 16),(0,14))]))
 .ret))⟩
theorem c96:compFunc Tryz.prog 96=some a96:=by kernel_rfl
def Zcc (r:Tx):AV→Heap→Nat→Prop:=fun v h' n' => v=(S r)∧(h' = e0)∧n' = 0
noncomputable def Z2b (c_:Int):Option Tx :=
 (sub? [48,49,50,51,52,53,54,55,56,57,65,66,67,68,69,70] (shr .u8 c_ 4) (wr .u8 ((shr .u8 c_ 4)+1))).bind fun r_ =>
 (cat? [37] r_).bind fun r_1 =>
 (sub? [48,49,50,51,52,53,54,55,56,57,65,66,67,68,69,70] (bitsV .and .u8 c_ 15) (wr .u8 ((bitsV .and .u8 c_ 15)+1))).bind fun r_2 =>
 (cat? r_1 r_2).bind fun r_3 =>
 some r_3
theorem Z86 {mL:Int}{c_:Int}{r:Tx}(h:Z2b c_=some r):CPure Tryz.prog (GG mL) 96 [(.c (.val (.int .u8 c_)))] (S r):=by
 refine acalls_of_sv hmix c96 (R:=Zcc r) ?_
 unfold Z2b at h
 refine ssr<|un1 rfl<|dnil<|Sv.seq<|Sv.drawn<|un1 rfl<|un1 (v:=(.c (.val (.int .u8 (shr .u8 c_ 4))))) rfl<|un1 rfl<|un1 (v:=(.c (.val (.int .u8 (shr .u8 c_ 4))))) rfl<|un1 (v:=(.c (.val (.int .u8 (wr .u8 ((shr .u8 c_ 4)+1)))))) rfl ?_
 obtain ⟨r_,hx1,h⟩:=bnd h
 refine un1 (v:=(S r_)) (s_slStr rfl rfl rfl hx1) ?_
 obtain ⟨r_1,hx2,h⟩:=bnd h
 refine un1 (v:=(S r_1)) (s_cat rfl rfl hx2)<|un1 rfl<|un1 (v:=(.c (.val (.int .u8 (bitsV .and .u8 c_ 15))))) rfl<|un1 rfl<|un1 (v:=(.c (.val (.int .u8 (bitsV .and .u8 c_ 15))))) rfl<|un1 (v:=(.c (.val (.int .u8 (wr .u8 ((bitsV .and .u8 c_ 15)+1)))))) rfl ?_
 obtain ⟨r_2,hx3,h⟩:=bnd h
 refine un1 (v:=(S r_2)) (s_slStr rfl rfl rfl hx3) ?_
 obtain ⟨r_3,hx4,h⟩:=bnd h
 refine un1 (v:=(S r_3)) (s_cat rfl rfl hx4)<|un1 rfl<|dnil<|Sv.ret ?_
 exact rt0 h rfl rfl ⟨rfl,rfl,rfl⟩
noncomputable abbrev Zi (l:List UInt8) (x0:Tx):Option Tx:=bWriteString? l x0
theorem Z1p {mL:Int}{z:Bool}{l:List UInt8}{x0:Tx}{r:List UInt8}(hz:z=true→l=[]) (h:Zi l x0=some r):ACalls Tryz.prog (GG mL) 67 [.c (.ref 0 2 0 0),(S x0)] (bldH 90 5 z l) 2 (bPost 90 5 (.tup [.c (.val (.int .i64 (x0.length:Int))),.c (.val .nilIface)]) r):=bWriteString_ok blays b166 hz h
theorem Z5f {mL:Int}{z:Bool}{l:List UInt8}(hz:z=true→l=[]):ACalls Tryz.prog (GG mL) 70 [.c (.ref 0 2 0 0)] (bldH 90 5 z l) 2 (fun v h' n' => v = .c (.str l)∧h' = e0∧n' = 2):=bString_ok bL bX hz
def a87_c0:ACode:=(.cond (.tmp 20) (.region [(mV 31 5),(oP 32 (.call 95 [(.tmp 4),(.tmp 31)]))]) (.region [(mV 14 5),(oP 15 (.call 96 [(.tmp 14)])),(oP 16 (.call 67 [(.tmp 4),(.tmp 15)]))]))
def a87_c1:ACode:=(.region [(mV 33 0),(mV 34 6),(oP 35 (.slStr (.tmp 33) (some (.tmp 34)) none)),(mV 0 35)])
def a87_c2:ACode:=(.seq (sr [(mV 7 0),(oP 8 (.bin .neq (.tmp 7) (.const (.c (.str [])))))]
 (.cond (.tmp 8) .skip (.exit 0)))
 (.block 1 (sr [(mV 10 0),(oP 11 (.call 115 [(.tmp 10)])),(mV 9 11),(oP 12 (.ext (.tmp 9) 0)),(oP 13 (.ext (.tmp 9) 1)),(mV 5 12),(mV 6 13)]
 (.seq (.block 2 (sr [(mV 18 6),(oP 19 (.bin .eql (.tmp 18) (kI 0))),(mV 17 19)]
 (.cond (.tmp 17) (sr [(oP 2 (.mov (.const (.c (.str []))))),(oP 3 (.mov kF))]
 .ret) (sr [(mV 21 5),(oP 22 (.call 94 [(.tmp 21)])),(mV 23 22),⟨(some 24),(.mov (.tmp 6)),(some (23,false))⟩,⟨(some 25),(.bin .eql (.tmp 24) (kI 1)),(some (23,false))⟩,⟨(some 26),(.mov (.tmp 25)),(some (23,false))⟩,⟨(some 27),(.mov (.tmp 5)),(some (26,true))⟩,⟨(some 28),(.call 65 [(.tmp 27),(.const (.c (.str [33,36,38,39,40,41,42,43,44,59,61,58,64,47,63])))]),(some (26,true))⟩,⟨(some 29),(.pick (.tmp 26) (.tmp 28) kF),(some (23,false))⟩,(oP 30 (.pick (.tmp 23) kT (.tmp 29))),(mV 20 30)]
 a87_c0))))
 a87_c1))))
def a87:AFunc:=⟨1,[(.tmp 2),(.tmp 3)],(sr [(oP 2 (.mov (.const (.c (.str []))))),(oP 3 (.mov kF))]
 (sr [(oP 4 (.boxB 90))]
 (.seq (.block 0 (.loop a87_c2))
 (sr [(oP 36 (.call 70 [(.tmp 4)])),(mV 2 36),(oP 3 (.mov kT))]
 .ret))))⟩
theorem c87:compFunc Tryz.prog 87=some a87:=by kernel_rfl
def Z5g (r:(Tx×Bool)):AV→Heap→Nat→Prop:=fun v h' n' => v=(.tup [(S r.1),(B r.2)])∧(h' = e0)∧n' = 0
abbrev Z6g (mL:Int) (Q:AExit→St→Prop):AExit→St→Prop:=ABlock 1 Q
abbrev Z6h (F_:Tx→Tx→Option (Tx×Bool)) (o:(Tx×Bool)) (R_:St→Prop):Prop:=∀(s_1:Tx) (out:Tx) (zout:Bool) (_:zout=true→out=[]),F_ s_1 out=some o→∀ s,Weak 0 s ⟨(ue [(4,(.c (.ref 0 2 0 0))),(0,(S s_1))]),(upd (upd e0 0 (some (.bld 90 zout 1 out.length))) 1 (bufB zout 5 out)),2⟩→R_ s
abbrev Z6i (F_:Tx→Option (Tx×Bool)) (o:(Tx×Bool)) (R_:St→Prop):Prop:=∀(out1:Tx) (zout1:Bool) (_:zout1=true→out1=[]),F_ out1=some o→∀ s,Weak 0 s ⟨(upd e0 4 (some (.c (.ref 0 2 0 0)))),(upd (upd e0 0 (some (.bld 90 zout1 1 out1.length))) 1 (bufB zout1 5 out1)),2⟩→R_ s
noncomputable def Z30 (s_1:Tx) (r_:(Int×Int)) (self:Tx→Tx→Option (Tx×Bool)) (K0_:Tx→Option (Tx×Bool)) (out2:Tx):Option (Tx×Bool) :=
 (sub? s_1 r_.2 (s_1.length:Int)).bind fun r_1 =>
 self r_1 out2
theorem Z87 {mL:Int}{Q:AExit→St→Prop}{s_1:Tx}{r_:(Int×Int)}{self:Tx→Tx→Option (Tx×Bool)}{K0_:Tx→Option (Tx×Bool)}{out2:Tx}{zout2:Bool}(hzout2:zout2=true→out2=[]) {o:(Tx×Bool)}(h:Z30 s_1 r_ self K0_ out2=some o)
  (hself:Z6h self o (Q .normal))
  (hK0:Z6i K0_ o (Q (.exit 0)))
  (hr:∀ s,Ends a87.results 0 (Z5g o) .ret s→Q .ret s) :
  Sv Tryz.prog (GG mL) 0 a87_c1 (Z6g mL Q) ⟨(ue [(6,(I r_.2)),(4,(.c (.ref 0 2 0 0))),(0,(S s_1))]),(upd (upd e0 0 (some (.bld 90 zout2 1 out2.length))) 1 (bufB zout2 5 out2)),2⟩:=by
 unfold Z30 at h
 refine srg<|un1 rfl<|un1 rfl ?_
 obtain ⟨r_1,hx1,h⟩:=bnd h
 refine un1 (v:=(S r_1)) (s_slStr rfl rfl rfl hx1)<|un1 rfl<|dnil ?_
 exact hself r_1 out2 zout2 hzout2 h _ (wcn [0,1] rfl (.cr rfl rfl rfl (.cf rfl rfl .nil)) (.buf (by decide) rfl (.box (by decide) rfl (.bld rfl (by decide)) .nil)))
abbrev Zcd (mL:Int) (Q:AExit→St→Prop):AExit→St→Prop:=AThen (Sv Tryz.prog (GG mL) 0 a87_c1 (Z6g mL Q)) (Z6g mL Q)
abbrev Zce (mL:Int) (Q:AExit→St→Prop):AExit→St→Prop:=ABlock 2 (Zcd mL Q)
noncomputable def Ze (r_:(Int×Int)) (s_1:Tx) (self:Tx→Tx→Option (Tx×Bool)) (K0_:Tx→Option (Tx×Bool)) (out3:Tx) (v20:Bool):Option (Tx×Bool) :=
 if v20 then
  (Z42 out3 r_.1).bind fun r_2 =>
  Z30 s_1 r_ self K0_ r_2
 else
  (Z2b r_.1).bind fun r_3 =>
  (Zi out3 r_3).bind fun r_4 =>
  Z30 s_1 r_ self K0_ r_4
theorem Z6j {mL:Int}{Q:AExit→St→Prop}{r_:(Int×Int)}{s_1:Tx}{self:Tx→Tx→Option (Tx×Bool)}{K0_:Tx→Option (Tx×Bool)}{out3:Tx}{v20:Bool}{zout3:Bool}(hzout3:zout3=true→out3=[]) {o:(Tx×Bool)}(h:Ze r_ s_1 self K0_ out3 v20=some o)
  (hself:Z6h self o (Q .normal))
  (hK0:Z6i K0_ o (Q (.exit 0)))
  (hr:∀ s,Ends a87.results 0 (Z5g o) .ret s→Q .ret s) :
  Sv Tryz.prog (GG mL) 0 a87_c0 (Zce mL Q) ⟨(ue [(20,(B v20)),(6,(I r_.2)),(5,(.c (.val (.int .u8 r_.1)))),(4,(.c (.ref 0 2 0 0))),(0,(S s_1))]),(upd (upd e0 0 (some (.bld 90 zout3 1 out3.length))) 1 (bufB zout3 5 out3)),2⟩:=by
 unfold Ze at h
 refine Sv.cnd rfl h (fun h=>?_) fun h=>?_
 ·refine srg<|un1 rfl ?_
  obtain ⟨r_2,hr2,h⟩:=bnd h
  refine un<|ac_gen (bs:=[0,1]) («as»:=[(.c (.ref 0 2 0 0)),(.c (.val (.int .u8 r_.1)))]) (h2:=_) (h1:=(upd (upd e0 0 (some (.bld 90 zout3 1 out3.length))) 1 (bufB zout3 5 out3))) (Z6f (z:=zout3) (l:=out3) hzout3 hr2) rfl (.cons (.c (.ref rfl (by decide))) (.cons (avAs_free rfl) .nil)) (hsub_refl _) (.cons rfl (.cons rfl (.nil _))) hcs (by decide) (by decide) (.cons (.c (.ref rfl (by decide))) (.cons (avAs_free rfl) .nil)) (.buf (by decide) rfl (.box (by decide) rfl (.bld rfl (by decide)) .nil)) ?_
  rintro _ _ _ hn ⟨z_,hz_,rfl,rfl,rfl⟩
  refine ⟨.inl rfl,(upd (upd (rem [0,1] _) 0 (some (.bld 90 z_ 2 r_2.length))) 2 (bufB z_ 5 r_2)),fun hbd=>(m3_cons (m3_buf rfl) (m3_cons (m3_box rfl rfl) (m3_rem (in_cons (by decide) (in_cons (by decide) (in_nil _))) (.cons (by decide) (.cons (by decide) .nil)) hbd))),(.c (.val .nilIface)),3,(by cases z_ <;> rfl),rfl,?_⟩
  refine dnil ?_
  exact Sv.weak (wcn [0,2] rfl (.cf rfl rfl (.cr rfl rfl rfl (.cf rfl rfl .nil))) (.buf (by decide) rfl (.box (by decide) rfl (.bld rfl (by decide)) .nil))) (Z87 hz_ h hself hK0 hr)
 ·refine srg<|un1 rfl ?_
  obtain ⟨r_3,hr3,h⟩:=bnd h
  refine un<|ac_pure (Z86 hr3) rfl rfl rfl ?_
  obtain ⟨r_4,hr4,h⟩:=bnd h
  refine un<|ac_gen (bs:=[0,1]) («as»:=[(.c (.ref 0 2 0 0)),(S r_3)]) (h2:=_) (h1:=(upd (upd e0 0 (some (.bld 90 zout3 1 out3.length))) 1 (bufB zout3 5 out3))) (Z1p (z:=zout3) (l:=out3) hzout3 hr4) rfl (.cons (.c (.ref rfl (by decide))) (.cons (avAs_free rfl) .nil)) (hsub_refl _) (.cons rfl (.cons rfl (.nil _))) hcs (by decide) (by decide) (.cons (.c (.ref rfl (by decide))) (.cons (avAs_free rfl) .nil)) (.buf (by decide) rfl (.box (by decide) rfl (.bld rfl (by decide)) .nil)) ?_
  rintro _ _ _ hn ⟨z_1,hz_1,rfl,rfl,rfl⟩
  refine ⟨.inl rfl,(upd (upd (rem [0,1] _) 0 (some (.bld 90 z_1 2 r_4.length))) 2 (bufB z_1 5 r_4)),fun hbd=>(m3_cons (m3_buf rfl) (m3_cons (m3_box rfl rfl) (m3_rem (in_cons (by decide) (in_cons (by decide) (in_nil _))) (.cons (by decide) (.cons (by decide) .nil)) hbd))),(.tup [(I (r_3.length:Int)),(.c (.val .nilIface))]),3,(by cases z_1 <;> rfl),rfl,?_⟩
  refine dnil ?_
  exact Sv.weak (wcn [0,2] rfl (.cf rfl rfl (.cr rfl rfl rfl (.cf rfl rfl .nil))) (.buf (by decide) rfl (.box (by decide) rfl (.bld rfl (by decide)) .nil))) (Z87 hz_1 h hself hK0 hr)
abbrev Z88 (F_:Nat→Tx→Tx→Option (Tx×Bool)) (o:(Tx×Bool)):Nat→St→Prop:=fun k s=>∃(s_1:Tx),∃(out:Tx),∃(zout:Bool),(zout=true→out=[])∧F_ k s_1 out=some o∧s=⟨(ue [(4,(.c (.ref 0 2 0 0))),(0,(S s_1))]),(upd (upd e0 0 (some (.bld 90 zout 1 out.length))) 1 (bufB zout 5 out)),2⟩
noncomputable def Z6 (K0_:Tx→Option (Tx×Bool)):Nat→Tx→Tx→Option (Tx×Bool)
 | 0,_,_=>none
 | k+1,s_1,out =>
  if (!decide (s_1=[])) then
   (Zw s_1).bind fun r_ =>
   if decide (r_.2=0) then
    some ([],false)
   else
    (Z1o r_.1).bind fun r_5 =>
    if r_5 then
     Ze r_ s_1 (Z6 K0_ k) K0_ out true
    else
     if decide (r_.2=1) then
      (Zu r_.1 [33,36,38,39,40,41,42,43,44,59,61,58,64,47,63]).bind fun r_6 =>
      Ze r_ s_1 (Z6 K0_ k) K0_ out r_6
     else
      Ze r_ s_1 (Z6 K0_ k) K0_ out false
  else
   K0_ out
theorem Zcf {mL:Int}{Q:AExit→St→Prop}{K0_:Tx→Option (Tx×Bool)}{k:Nat}{s_1:Tx}{out:Tx}{zout:Bool}(hzout:zout=true→out=[]) {o:(Tx×Bool)}(h:Z6 K0_ k s_1 out=some o)
  (hK0:Z6i K0_ o (Q (.exit 0)))
  (hr:∀ s,Ends a87.results 0 (Z5g o) .ret s→Q .ret s) :
  Sv Tryz.prog (GG mL) 0 (.loop a87_c2) Q ⟨(ue [(4,(.c (.ref 0 2 0 0))),(0,(S s_1))]),(upd (upd e0 0 (some (.bld 90 zout 1 out.length))) 1 (bufB zout 5 out)),2⟩:=by
 refine Sv.loop (I:=Z88 (Z6 K0_) o) (fun k s hI=>?_) ⟨s_1,out,zout,hzout,h,rfl⟩
 clear h
 clear hzout zout out s_1
 obtain ⟨s_1,out,zout,hzout,h,rfl⟩:=hI
 cases k with
 | zero=>cases h
 | succ k =>
 rw [Z6] at h
 have hself:Z6h (Z6 K0_ k) o (rnd 0 (Z88 (Z6 K0_) o) k Q):=fun s_1 out zout hzout h s hw=>⟨_,k,hw,Nat.lt_succ_self k,s_1,out,zout,hzout,h,rfl⟩
 refine Sv.seq<|ssr<|un1 rfl<|un1 (v:=(B (!decide (s_1=[])))) rfl<|dnil ?_
 refine Sv.cnd rfl h (fun h=>?_) fun h=>?_
 ·refine Sv.skip<|Sv.block<|ssr<|un1 rfl ?_
  obtain ⟨r_,hr1,h⟩:=bnd h
  refine un<|ac_pure (Z82 hr1) rfl rfl rfl<|un1 rfl<|un1 (v:=(.c (.val (.int .u8 r_.1)))) rfl<|un1 (v:=(I r_.2)) rfl<|un1 rfl<|un1 rfl<|dnil<|Sv.seq<|Sv.block<|ssr<|un1 rfl<|un1 (v:=(B (decide (r_.2=0)))) rfl<|un1 rfl<|dnil ?_
  refine Sv.cnd rfl h (fun h=>?_) fun h=>?_
  ·refine ssr<|un1 rfl<|un1 rfl<|dnil<|Sv.ret ?_
   exact hr _ (rt0 h rfl rfl ⟨rfl,rfl,rfl⟩)
  ·refine ssr<|un1 rfl ?_
   obtain ⟨r_5,hr5,h⟩:=bnd h
   refine un<|ac_pure (Z85 hr5) rfl rfl rfl<|un1 rfl ?_
   refine spl h (fun h=>?_) fun h=>?_
   ·repeat (first | refine gu rfl ?_ | refine gs rfl rfl ?_)
    refine un1 (v:=(B true)) rfl<|un1 rfl<|dnil ?_
    exact Sv.weak (wcn [0,1] rfl (.cf rfl rfl (.cf rfl rfl (.cf rfl rfl (.cr rfl rfl rfl (.cf rfl rfl .nil))))) (.buf (by decide) rfl (.box (by decide) rfl (.bld rfl (by decide)) .nil))) (Z6j hzout h hself hK0 hr)
   ·refine gt rfl<|a1 rfl<|gt rfl<|a1 (v:=(B (decide (r_.2=1)))) rfl<|gt rfl<|a1 rfl ?_
    refine spl h (fun h=>?_) fun h=>?_
    ·refine gt rfl<|a1 rfl ?_
     obtain ⟨r_6,hr6,h⟩:=bnd h
     refine gt rfl<|ac_pure (Z66 hr6) rfl rfl rfl<|gt rfl<|a1 (v:=(B r_6)) rfl<|un1 (v:=(B r_6)) rfl<|un1 rfl<|dnil ?_
     exact Sv.weak (wcn [0,1] rfl (.cf rfl rfl (.cf rfl rfl (.cf rfl rfl (.cr rfl rfl rfl (.cf rfl rfl .nil))))) (.buf (by decide) rfl (.box (by decide) rfl (.bld rfl (by decide)) .nil))) (Z6j hzout h hself hK0 hr)
    ·refine gs rfl rfl<|gs rfl rfl<|gt rfl<|a1 (v:=(B false)) rfl<|un1 (v:=(B false)) rfl<|un1 rfl<|dnil ?_
     exact Sv.weak (wcn [0,1] rfl (.cf rfl rfl (.cf rfl rfl (.cf rfl rfl (.cr rfl rfl rfl (.cf rfl rfl .nil))))) (.buf (by decide) rfl (.box (by decide) rfl (.bld rfl (by decide)) .nil))) (Z6j hzout h hself hK0 hr)
 ·refine Sv.exit ?_
  exact hK0 out zout hzout h _ (wcn [0,1] rfl (.cr rfl rfl rfl .nil) (.buf (by decide) rfl (.box (by decide) rfl (.bld rfl (by decide)) .nil)))
noncomputable def Z31 (s_:Tx):Option (Tx×Bool) :=
 lim fun kk=>Z6 (fun (out1:Tx) => 
   some (out1,true)) kk s_ ([]:List UInt8)
theorem Z89 {mL:Int}{s_:Tx}{r:(Tx×Bool)}(h:Z31 s_=some r):CPure Tryz.prog (GG mL) 87 [(S s_)] (.tup [(S r.1),(B r.2)]):=by
 refine acalls_of_sv hmix c87 (R:=Z5g r) ?_
 unfold Z31 at h
 refine ssr<|un1 rfl<|un1 rfl<|dnil<|ssr<|un<|a2v (v:=(.c (.ref 1 2 0 0))) (h' := upd _ 1 (some (.bld 90 true 0 ([]:List UInt8).length))) (n' := 2) rfl rfl hcs<|dnil<|Sv.seq<|Sv.block ?_
 obtain ⟨kk,h⟩:=lim_some h
 refine Sv.weak (wcn [1,1000] rfl (.cr rfl rfl rfl (.cf rfl rfl .nil)) (.nonB (by decide) (.box (by decide) rfl (.bldN (by decide)) .nil))) (Zcf (fun _=>rfl) h ?_ (fun s hs=>hs))
 ·intro out1 zout1 hzout1 h _ hw1
  refine Sv.weak hw1<|ssr<|un<|ac_gen (bs:=[0,1]) («as»:=[(.c (.ref 0 2 0 0))]) (h2:=_) (h1:=(upd (upd e0 0 (some (.bld 90 zout1 1 out1.length))) 1 (bufB zout1 5 out1))) (Z5f (z:=zout1) (l:=out1) hzout1) rfl (.cons (.c (.ref rfl (by decide))) .nil) (hsub_refl _) (.cons rfl (.cons rfl (.nil _))) hcs (by decide) (by decide) (.cons (.c (.ref rfl (by decide))) .nil) (.buf (by decide) rfl (.box (by decide) rfl (.bld rfl (by decide)) .nil)) ?_
  rintro _ _ _ hn ⟨rfl,rfl,rfl⟩
  refine ⟨.inl rfl,(rem [0,1] _),fun hbd=>(m3_rem (in_cons (by decide) (in_cons (by decide) (in_nil _))) (.nil) hbd),(S out1),2,rfl,rfl,?_⟩
  refine un1 rfl<|un1 rfl<|dnil<|Sv.ret ?_
  exact rt0 h rfl rfl ⟨rfl,rfl,rfl⟩
def a60:AFunc:=⟨2,[(.tmp 4),(.tmp 5)],(sr [(oP 4 (.mov (.const (.c (.str []))))),(oP 5 (.mov kF))]
 (sr [(mV 14 1),(oP 15 (.call 44 [(.tmp 14),(.const (.c (.str [35])))])),(mV 13 15),(oP 16 (.ext (.tmp 13) 0)),(oP 17 (.ext (.tmp 13) 1)),(oP 18 (.ext (.tmp 13) 2)),(mV 1 16),(mV 6 17),(mV 7 18)]
 (sr [(mV 20 1),(oP 21 (.call 44 [(.tmp 20),(.const (.c (.str [63])))])),(mV 19 21),(oP 22 (.ext (.tmp 19) 0)),(oP 23 (.ext (.tmp 19) 1)),(oP 24 (.ext (.tmp 19) 2)),(mV 8 22),(mV 9 23),(mV 10 24)]
 (sr [(oP 11 (.mov kF)),(oP 12 (.mov kF))]
 (sr [(mV 25 0),(mV 26 0),(mV 27 10),(mV 28 7),(oP 29 (.nilc (.tmp 25))),(oP 30 (.faddr 5 (.tmp 29))),(oN (.store 1 (.tmp 30) (.tmp 27))),(oP 31 (.nilc (.tmp 26))),(oP 32 (.faddr 7 (.tmp 31))),(oN (.store 1 (.tmp 32) (.tmp 28)))]
 (sr [(mV 34 0),(mV 35 9),(oP 36 (.call 87 [(.tmp 35)])),(mV 33 36),(oP 37 (.ext (.tmp 33) 0)),(oP 38 (.ext (.tmp 33) 1)),(oP 39 (.nilc (.tmp 34))),(oP 40 (.faddr 4 (.tmp 39))),(oN (.store 1 (.tmp 40) (.tmp 37))),(mV 11 38)]
 (sr [(mV 42 0),(mV 43 6),(oP 44 (.call 87 [(.tmp 43)])),(mV 41 44),(oP 45 (.ext (.tmp 41) 0)),(oP 46 (.ext (.tmp 41) 1)),(oP 47 (.nilc (.tmp 42))),(oP 48 (.faddr 6 (.tmp 47))),(oN (.store 1 (.tmp 48) (.tmp 45))),(mV 12 46)]
 (sr [(mV 49 8),(mV 50 11),(mV 51 50),⟨(some 52),(.mov (.tmp 12)),(some (51,true))⟩,(oP 53 (.pick (.tmp 51) (.tmp 52) kF)),(mV 4 49),(mV 5 53)]
 .ret))))))))⟩
theorem c60:compFunc Tryz.prog 60=some a60:=by kernel_rfl
def Z8a (r:(Tx×Bool×TJUrl)):AV→Heap→Nat→Prop:=fun v h' n' => ∃ z0:Bool,(z0=true→r.2.2.Path=[])∧v=(.tup [(S r.1),(B r.2.1)])∧(h' = (upd (upd e0 0 (some (.cells 8 [[.str r.2.2.Scheme,.str r.2.2.Host,cI r.2.2.Port,lstC z0 2 1 r.2.2.Path.length,.str r.2.2.Query,cB r.2.2.Asks,.str r.2.2.Fragment,cB r.2.2.Points]]))) 2 (lstB z0 1 (r.2.2.Path.map eStr))))∧n' = 3
noncomputable def Z2c (u_:TJUrl) (s_:Tx):Option (Tx×Bool×TJUrl) :=
 (Z3v s_ [35]).bind fun r_ =>
 (Z3v r_.1 [63]).bind fun r_1 =>
 (Z31 r_1.2.1).bind fun r_2 =>
 (Z31 r_.2.1).bind fun r_3 =>
 some (r_1.1,(r_2.2&&r_3.2),(⟨u_.Scheme,u_.Host,u_.Port,u_.Path,r_2.1,r_1.2.2,r_3.1,r_.2.2⟩:TJUrl))
theorem Z8b {mL:Int}{u_:TJUrl}{s_:Tx}{zu:Bool}(hzu:zu=true→u_.Path=[]) {r:(Tx×Bool×TJUrl)}(h:Z2c u_ s_=some r):ACalls Tryz.prog (GG mL) 60 [(.c (.ref 0 8 0 0)),(S s_)] (upd (upd e0 0 (some (.cells 8 [[.str u_.Scheme,.str u_.Host,cI u_.Port,lstC zu 1 1 u_.Path.length,.str u_.Query,cB u_.Asks,.str u_.Fragment,cB u_.Points]]))) 1 (lstB zu 1 (u_.Path.map eStr))) 2 (Z8a r):=by
 refine acalls_of_sv hmix c60 (R:=Z8a r) ?_
 unfold Z2c at h
 refine ssr<|un1 rfl<|un1 rfl<|dnil<|ssr<|un1 rfl ?_
 obtain ⟨r_,hr1,h⟩:=bnd h
 refine un<|ac_pure (Z5a hr1) rfl rfl rfl<|un1 rfl<|un1 (v:=(S r_.1)) rfl<|un1 (v:=(S r_.2.1)) rfl<|un1 (v:=(B r_.2.2)) rfl<|un1 rfl<|un1 rfl<|un1 rfl<|dnil<|ssr<|un1 rfl ?_
 obtain ⟨r_1,hr2,h⟩:=bnd h
 refine un<|ac_pure (Z5a hr2) rfl rfl rfl<|un1 rfl<|un1 (v:=(S r_1.1)) rfl<|un1 (v:=(S r_1.2.1)) rfl<|un1 (v:=(B r_1.2.2)) rfl<|un1 rfl<|un1 rfl<|un1 rfl<|dnil<|ssr<|un1 rfl<|un1 rfl<|dnil<|ssr<|un1 rfl<|un1 rfl<|un1 rfl<|un1 rfl<|un1 (v:=(.c (.ref 0 8 0 0))) rfl<|un1 (v:=(.c (.ref 0 8 0 5))) rfl<|un<|a2n (h' := upd _ 0 (some (.cells 8 [[.str u_.Scheme,.str u_.Host,cI u_.Port,lstC zu 1 1 u_.Path.length,.str u_.Query,cB r_1.2.2,.str u_.Fragment,cB u_.Points]]))) (n' := 2) rfl rfl hcs<|un1 (v:=(.c (.ref 0 8 0 0))) rfl<|un1 (v:=(.c (.ref 0 8 0 7))) rfl<|un<|a2n (h' := upd _ 0 (some (.cells 8 [[.str u_.Scheme,.str u_.Host,cI u_.Port,lstC zu 1 1 u_.Path.length,.str u_.Query,cB r_1.2.2,.str u_.Fragment,cB r_.2.2]]))) (n' := 2) rfl rfl hcs<|dnil<|ssr<|un1 rfl<|un1 rfl ?_
 obtain ⟨r_2,hr3,h⟩:=bnd h
 refine un<|ac_pure (Z89 hr3) rfl rfl rfl<|un1 rfl<|un1 (v:=(S r_2.1)) rfl<|un1 (v:=(B r_2.2)) rfl<|un1 (v:=(.c (.ref 0 8 0 0))) rfl<|un1 (v:=(.c (.ref 0 8 0 4))) rfl<|un<|a2n (h' := upd _ 0 (some (.cells 8 [[.str u_.Scheme,.str u_.Host,cI u_.Port,lstC zu 1 1 u_.Path.length,.str r_2.1,cB r_1.2.2,.str u_.Fragment,cB r_.2.2]]))) (n' := 2) rfl rfl hcs<|un1 rfl<|dnil<|ssr<|un1 rfl<|un1 rfl ?_
 obtain ⟨r_3,hr4,h⟩:=bnd h
 refine un<|ac_pure (Z89 hr4) rfl rfl rfl<|un1 rfl<|un1 (v:=(S r_3.1)) rfl<|un1 (v:=(B r_3.2)) rfl<|un1 (v:=(.c (.ref 0 8 0 0))) rfl<|un1 (v:=(.c (.ref 0 8 0 6))) rfl<|un<|a2n (h' := upd _ 0 (some (.cells 8 [[.str u_.Scheme,.str u_.Host,cI u_.Port,lstC zu 1 1 u_.Path.length,.str r_2.1,cB r_1.2.2,.str r_3.1,cB r_.2.2]]))) (n' := 2) rfl rfl hcs<|un1 rfl<|dnil<|ssr<|un1 rfl<|un1 rfl<|un1 rfl ?_
 refine gjoin 2 (d:=53) (v:=(B (r_2.2&&r_3.2))) (fun X hX=>?_) ?_
 ·refine split2 (fun hc1=>?_) (fun hc1=>?_)
  ·refine gt rfl<|a1 rfl<|un1 (v:=(B r_3.2)) rfl<|dnil ?_
   exact hX _ (.putEq (by rw [hc1]; rfl) (.skp (.putEq (by rw [hc1]) (.refl _)) rfl))
  ·refine gs rfl rfl<|un1 (v:=(B false)) rfl<|dnil ?_
   exact hX _ (.putEq (by rw [hc1]; rfl) (.skp (.putEq (by rw [hc1]) (.refl _)) rfl))
 refine un1 rfl<|un1 rfl<|dnil<|Sv.ret ?_
 replace h:=Option.some.inj h
 subst h
 exact ⟨_,.refl _,_,rfl,⟨upd e0 0 (some (.tup [(S r_1.1),(B (r_2.2&&r_3.2))])),(upd (upd e0 0 (some (.cells 8 [[.str u_.Scheme,.str u_.Host,cI u_.Port,lstC zu 2 1 u_.Path.length,.str r_2.1,cB r_1.2.2,.str r_3.1,cB r_.2.2]]))) 2 (lstB zu 1 (u_.Path.map eStr))),3⟩,(.tup [(S r_1.1),(B (r_2.2&&r_3.2))]),weak_canon2 [0,1,1] [0,2] (by decide) (by decide) (by decide) (.cons (by decide) (.cons (by decide) .nil)) (.cons rfl (avAs_tup (.cons (avAs_free rfl) (.cons (avAs_free rfl) .nil))) .nil) (.row (by decide) rfl (fr_map fun _=>rfl) (.box (by decide) rfl (blkAs_cells (.sm rfl (.sm rfl (.sm rfl (.cons (lstC_ren rfl (by decide)) (.sm rfl (.sm rfl (.sm rfl (.sm rfl .nil))))))))) .nil)),rfl,zu,hzu,rfl,rfl,rfl⟩
def a53:AFunc:=⟨2,[(.tmp 4)],(sr [(oP 4 (.mov (.const (.c (.str [])))))]
 (.seq (sr [(mV 5 0),(mV 6 1),(oP 7 (.call 49 [(.tmp 5),(.tmp 6)]))]
 (.cond (.tmp 7) (sr [(mV 8 0),(mV 9 1),(oP 10 (.lenS (.tmp 9))),(oP 11 (.slStr (.tmp 8) (some (.tmp 10)) none)),(mV 4 11)]
 .ret) .skip))
 (sr [(mV 12 0),(mV 4 12)]
 .ret)))⟩
theorem c53:compFunc Tryz.prog 53=some a53:=by kernel_rfl
def Zcg (r:Tx):AV→Heap→Nat→Prop:=fun v h' n' => v=(S r)∧(h' = e0)∧n' = 0
noncomputable def Z5h (s_:Tx) (prefix_:Tx):Option Tx :=
 (Z29 s_ prefix_).bind fun r_ =>
 if r_ then
  (sub? s_ (prefix_.length:Int) (s_.length:Int)).bind fun r_1 =>
  some r_1
 else
  some s_
theorem Zch {mL:Int}{s_:Tx}{prefix_:Tx}{r:Tx}(h:Z5h s_ prefix_=some r):CPure Tryz.prog (GG mL) 53 [(S s_),(S prefix_)] (S r):=by
 refine acalls_of_sv hmix c53 (R:=Zcg r) ?_
 unfold Z5h at h
 refine ssr<|un1 rfl<|dnil<|Sv.seq<|ssr<|un1 rfl<|un1 rfl ?_
 obtain ⟨r_,hr1,h⟩:=bnd h
 refine un<|ac_pure (Z69 hr1) rfl rfl rfl<|dnil ?_
 refine Sv.cnd rfl h (fun h=>?_) fun h=>?_
 ·refine ssr<|un1 rfl<|un1 rfl<|un1 (v:=(I (prefix_.length:Int))) rfl ?_
  obtain ⟨r_1,hx1,h⟩:=bnd h
  refine un1 (v:=(S r_1)) (s_slStr rfl rfl rfl hx1)<|un1 rfl<|dnil<|Sv.ret ?_
  exact rt0 h rfl rfl ⟨rfl,rfl,rfl⟩
 ·refine Sv.skip<|ssr<|un1 rfl<|un1 rfl<|dnil<|Sv.ret ?_
  exact rt0 h rfl rfl ⟨rfl,rfl,rfl⟩
def a28:AFunc:=⟨2,[(.tmp 4)],(sr [(oP 4 (.mov (.const (.c (.str [])))))]
 (sr [(mV 5 0),(mV 6 1),(oP 7 (.call 53 [(.tmp 5),(.tmp 6)])),(mV 4 7)]
 .ret))⟩
theorem c28:compFunc Tryz.prog 28=some a28:=by kernel_rfl
def Zci (r:Tx):AV→Heap→Nat→Prop:=fun v h' n' => v=(S r)∧(h' = e0)∧n' = 0
noncomputable def Z7 (s_:Tx) (prefix_:Tx):Option Tx :=
 (Z5h s_ prefix_).bind fun r_ =>
 some r_
theorem Z2d {mL:Int}{s_:Tx}{prefix_:Tx}{r:Tx}(h:Z7 s_ prefix_=some r):CPure Tryz.prog (GG mL) 28 [(S s_),(S prefix_)] (S r):=by
 refine acalls_of_sv hmix c28 (R:=Zci r) ?_
 unfold Z7 at h
 refine ssr<|un1 rfl<|dnil<|ssr<|un1 rfl<|un1 rfl ?_
 obtain ⟨r_,hr1,h⟩:=bnd h
 refine un<|ac_pure (Zch hr1) rfl rfl rfl<|un1 rfl<|dnil<|Sv.ret ?_
 exact rt0 h rfl rfl ⟨rfl,rfl,rfl⟩
def a88_c0:ACode:=(.seq (sr [(mV 7 0),(oP 8 (.bin .neq (.tmp 7) (.const (.c (.str [])))))]
 (.cond (.tmp 8) .skip (.exit 0)))
 (.block 1 (sr [(mV 10 0),(oP 11 (.call 115 [(.tmp 10)])),(mV 9 11),(oP 12 (.ext (.tmp 9) 0)),(oP 13 (.ext (.tmp 9) 1)),(mV 5 12),(mV 6 13)]
 (.seq (sr [(mV 14 6),(oP 15 (.bin .eql (.tmp 14) (kI 0)))]
 (.cond (.tmp 15) (sr [(oP 2 (.mov (.const (.c (.str []))))),(oP 3 (.mov (kI 3)))]
 .ret) .skip))
 (sr [(mV 16 4),(mV 17 5),(oP 18 (.bslice 1 [(.val (.int .u8 0))] 1 [(0,(.tmp 17))])),(oP 19 (.app 1 1 (.tmp 16) (.tmp 18))),(mV 4 19)]
 (.region [(mV 20 0),(mV 21 6),(oP 22 (.slStr (.tmp 20) (some (.tmp 21)) none)),(mV 0 22)]))))))
def a88:AFunc:=⟨1,[(.tmp 2),(.tmp 3)],(sr [(oP 2 (.mov (.const (.c (.str []))))),(oP 3 (.mov (kI 0)))]
 (sr [(oP 4 (.mov (.const (.c (.ro true 1 [])))))]
 (.seq (.block 0 (.loop a88_c0))
 (sr [(mV 23 4),(oP 24 (.ofBytes (.tmp 23))),(mV 2 24),(oP 3 (.mov (kI 0)))]
 .ret))))⟩
theorem c88:compFunc Tryz.prog 88=some a88:=by kernel_rfl
def Z8c (r:(Tx×Int)):AV→Heap→Nat→Prop:=fun v h' n' => v=(.tup [(S r.1),(I r.2)])∧(h' = e0)∧n' = 0
abbrev Zcj (F_:(List Int)→Option (Tx×Int)) (o:(Tx×Int)) (R_:St→Prop):Prop:=∀(out1:(List Int)) (zout1:Bool) (_:zout1=true→out1=[]),F_ out1=some o→∀ s,Weak 0 s ⟨(upd e0 4 (some (lstV zout1 0 1 out1.length))),(upd e0 0 (lstB zout1 1 (out1.map (eK .u8)))),1⟩→R_ s
abbrev Z8d (F_:Nat→Tx→(List Int)→Option (Tx×Int)) (o:(Tx×Int)):Nat→St→Prop:=fun k s=>∃(s_1:Tx),∃(out:(List Int)),∃(zout:Bool),(zout=true→out=[])∧F_ k s_1 out=some o∧s=⟨(ue [(4,(lstV zout 0 1 out.length)),(0,(S s_1))]),(upd e0 0 (lstB zout 1 (out.map (eK .u8)))),1⟩
abbrev Zck (F_:Tx→(List Int)→Option (Tx×Int)) (o:(Tx×Int)) (R_:St→Prop):Prop:=∀(s_1:Tx) (out:(List Int)) (zout:Bool) (_:zout=true→out=[]),F_ s_1 out=some o→∀ s,Weak 0 s ⟨(ue [(4,(lstV zout 0 1 out.length)),(0,(S s_1))]),(upd e0 0 (lstB zout 1 (out.map (eK .u8)))),1⟩→R_ s
noncomputable def Zf (K0_:(List Int)→Option (Tx×Int)):Nat→Tx→(List Int)→Option (Tx×Int)
 | 0,_,_=>none
 | k+1,s_1,out =>
  if (!decide (s_1=[])) then
   (Zw s_1).bind fun r_ =>
   if decide (r_.2=0) then
    some ([],3)
   else
    (app? 1 out [r_.1]).bind fun r_1 =>
    (sub? s_1 r_.2 (s_1.length:Int)).bind fun r_2 =>
    (Zf K0_ k) r_2 r_1
  else
   K0_ out
theorem Zcl {mL:Int}{Q:AExit→St→Prop}{K0_:(List Int)→Option (Tx×Int)}{k:Nat}{s_1:Tx}{out:(List Int)}{zout:Bool}(hzout:zout=true→out=[]) {o:(Tx×Int)}(h:Zf K0_ k s_1 out=some o)
  (hK0:Zcj K0_ o (Q (.exit 0)))
  (hr:∀ s,Ends a88.results 0 (Z8c o) .ret s→Q .ret s) :
  Sv Tryz.prog (GG mL) 0 (.loop a88_c0) Q ⟨(ue [(4,(lstV zout 0 1 out.length)),(0,(S s_1))]),(upd e0 0 (lstB zout 1 (out.map (eK .u8)))),1⟩:=by
 refine Sv.loop (I:=Z8d (Zf K0_) o) (fun k s hI=>?_) ⟨s_1,out,zout,hzout,h,rfl⟩
 clear h
 clear hzout zout out s_1
 obtain ⟨s_1,out,zout,hzout,h,rfl⟩:=hI
 cases k with
 | zero=>cases h
 | succ k =>
 rw [Zf] at h
 have hself:Zck (Zf K0_ k) o (rnd 0 (Z8d (Zf K0_) o) k Q):=fun s_1 out zout hzout h s hw=>⟨_,k,hw,Nat.lt_succ_self k,s_1,out,zout,hzout,h,rfl⟩
 refine Sv.seq<|ssr<|un1 rfl<|un1 (v:=(B (!decide (s_1=[])))) rfl<|dnil ?_
 refine Sv.cnd rfl h (fun h=>?_) fun h=>?_
 ·refine Sv.skip<|Sv.block<|ssr<|un1 rfl ?_
  obtain ⟨r_,hr1,h⟩:=bnd h
  refine un<|ac_pure (Z82 hr1) rfl rfl rfl<|un1 rfl<|un1 (v:=(.c (.val (.int .u8 r_.1)))) rfl<|un1 (v:=(I r_.2)) rfl<|un1 rfl<|un1 rfl<|dnil<|Sv.seq<|ssr<|un1 rfl<|un1 (v:=(B (decide (r_.2=0)))) rfl<|dnil ?_
  refine Sv.cnd rfl h (fun h=>?_) fun h=>?_
  ·refine ssr<|un1 rfl<|un1 rfl<|dnil<|Sv.ret ?_
   exact hr _ (rt0 h rfl rfl ⟨rfl,rfl,rfl⟩)
  ·refine Sv.skip<|ssr<|un1 rfl<|un1 rfl<|un<|a2v (v:=(lstV false 1 1 [r_.1].length)) (h' := upd _ 1 (lstB false 1 ([r_.1].map (eK .u8)))) (n' := 2) rfl rfl hcs ?_
   obtain ⟨r_1,hr2,h⟩:=bnd h
   have hz1:(zout&&[r_.1].isEmpty)=true→r_1=[]:=app_nil (z:=zout) (ys:=[r_.1]) hzout hr2
   refine un<|a2v rfl (s_app (xs:=out) (ys:=[r_.1]) (e:=(eK .u8)) (z:=zout) (b:=0) rfl rfl hzout rfl rfl (slc_lst rfl (List.length_map _).symm (map_nil_of hcs)) hr2) hcs<|un1 rfl<|dnil<|srg<|un1 rfl<|un1 rfl ?_
   obtain ⟨r_2,hx1,h⟩:=bnd h
   refine un1 (v:=(S r_2)) (s_slStr rfl rfl rfl hx1)<|un1 rfl<|dnil ?_
   exact hself r_2 r_1 (zout&&[r_.1].isEmpty) hz1 h _ (wcn [2] rfl (.cons rfl (.c (lsr rfl rfl)) (.cf rfl rfl .nil)) (.row (by decide) rfl (fr_map fun _=>rfl) .nil))
 ·refine Sv.exit ?_
  exact hK0 out zout hzout h _ (wcn [0] rfl (.cons rfl (.c (lsr rfl rfl)) .nil) (.row (by decide) rfl (fr_map fun _=>rfl) .nil))
noncomputable def Z32 (s_:Tx):Option (Tx×Int) :=
 lim fun kk=>Zf (fun (out1:(List Int)) => 
   some ((byts out1),0)) kk s_ ([]:List Int)
theorem Zcm {mL:Int}{s_:Tx}{r:(Tx×Int)}(h:Z32 s_=some r):CPure Tryz.prog (GG mL) 88 [(S s_)] (.tup [(S r.1),(I r.2)]):=by
 refine acalls_of_sv hmix c88 (R:=Z8c r) ?_
 unfold Z32 at h
 refine ssr<|un1 rfl<|un1 rfl<|dnil<|ssr<|un1 rfl<|dnil<|Sv.seq<|Sv.block ?_
 obtain ⟨kk,h⟩:=lim_some h
 refine Sv.weak (wcn [1000] rfl (.cons rfl (.c (.same rfl)) (.cf rfl rfl .nil)) (.non (by decide) .nil)) (Zcl (fun _=>rfl) h ?_ (fun s hs=>hs))
 ·intro out1 zout1 hzout1 h _ hw1
  refine Sv.weak hw1<|ssr<|un1 rfl<|un1 (v:=(S (byts out1))) (s_ofBytes (xs:=out1) rfl (slc_lst rfl (List.length_map _).symm (map_nil_of hzout1)))<|un1 rfl<|un1 rfl<|dnil<|Sv.ret ?_
  exact rt0 h rfl rfl ⟨rfl,rfl,rfl⟩
def a61_c0:ACode:=(sr [(oP 13 (.bin .lss (.tmp 12) (.tmp 11)))]
 (.seq (.cond (.tmp 13) .skip (.exit 0))
 (.seq (.block 1 (sr [(oP 14 (.iaddr 1 (.tmp 10) (.tmp 12))),(oP 15 (.load false 1 (.tmp 14))),(mV 6 15)]
 (sr [(mV 17 6),(oP 18 (.call 88 [(.tmp 17)])),(mV 16 18),(oP 19 (.ext (.tmp 16) 0)),(oP 20 (.ext (.tmp 16) 1)),(mV 7 19),(mV 8 20)]
 (.seq (sr [(mV 21 8),(oP 22 (.bin .neq (.tmp 21) (kI 0)))]
 (.cond (.tmp 22) (sr [(oP 2 (.mov (.const (.c (.ro true 1 []))))),(oP 3 (.mov kF))]
 .ret) .skip))
 (.region [(mV 23 4),(mV 24 7),(oP 25 (.bslice 1 [(.str [])] 1 [(0,(.tmp 24))])),(oP 26 (.app 1 16 (.tmp 23) (.tmp 25))),(mV 4 26)])))))
 (.region [(oP 27 (.bin .add (.tmp 12) (kI 1))),(mV 12 27)]))))
def a61:AFunc:=⟨1,[(.tmp 2),(.tmp 3)],(sr [(oP 2 (.mov (.const (.c (.ro true 1 []))))),(oP 3 (.mov kF))]
 (sr [(oP 4 (.mov (.const (.c (.ro true 1 [])))))]
 (.seq (sr [(mV 9 0),(oP 10 (.call 51 [(.tmp 9),(.const (.c (.str [47])))])),(oP 11 (.len (.tmp 10))),(oP 12 (.mov (kI 0)))]
 (.block 0 (.loop a61_c0)))
 (sr [(mV 28 4),(mV 2 28),(oP 3 (.mov kT))]
 .ret))))⟩
theorem c61:compFunc Tryz.prog 61=some a61:=by kernel_rfl
def Z6k (r:(TT×Bool)):AV→Heap→Nat→Prop:=fun v h' n' => ∃ z0:Bool,(z0=true→r.1=[])∧v=(.tup [(lstV z0 0 1 r.1.length),(B r.2)])∧(h' = (upd e0 0 (lstB z0 1 (r.1.map eStr))))∧n' = 1
abbrev Zcn (F_:TT→Option (TT×Bool)) (o:(TT×Bool)) (R_:St→Prop):Prop:=∀(out1:TT) (zout1:Bool) (_:zout1=true→out1=[]),F_ out1=some o→∀ s,Weak 0 s ⟨(upd e0 4 (some (lstV zout1 0 1 out1.length))),(upd e0 0 (lstB zout1 1 (out1.map eStr))),1⟩→R_ s
abbrev Z8e (r_:TT) (F_:Nat→TT→TT→Int→Option (TT×Bool)) (o:(TT×Bool)):Nat→St→Prop:=fun k s=>∃(out:TT),∃(v10:TT),∃(v12:Int),∃(zout:Bool),(zout=true→out=[])∧∃(zv10:Bool),(zv10=true→v10=[])∧F_ k out v10 v12=some o∧s=⟨(ue [(12,(I v12)),(11,(I (r_.length:Int))),(10,(lstV zv10 1 1 v10.length)),(4,(lstV zout 0 1 out.length))]),(upd (upd e0 0 (lstB zout 1 (out.map eStr))) 1 (lstB zv10 1 (v10.map eStr))),2⟩
abbrev Zco (r_:TT) (F_:TT→TT→Int→Option (TT×Bool)) (o:(TT×Bool)) (R_:St→Prop):Prop:=∀(out:TT) (v10:TT) (v12:Int) (zout:Bool) (_:zout=true→out=[]) (zv10:Bool) (_:zv10=true→v10=[]),F_ out v10 v12=some o→∀ s,Weak 0 s ⟨(ue [(12,(I v12)),(11,(I (r_.length:Int))),(10,(lstV zv10 1 1 v10.length)),(4,(lstV zout 0 1 out.length))]),(upd (upd e0 0 (lstB zout 1 (out.map eStr))) 1 (lstB zv10 1 (v10.map eStr))),2⟩→R_ s
noncomputable def Z19 (r_:TT) (K0_:TT→Option (TT×Bool)):Nat→TT→TT→Int→Option (TT×Bool)
 | 0,_,_,_=>none
 | k+1,out,v10,v12 =>
  if decide (v12<(r_.length:Int)) then
   (at? v10 v12).bind fun x_ =>
   (Z32 x_).bind fun r_1 =>
   if (!decide (r_1.2=0)) then
    some (([]:TT),false)
   else
    (app? 16 out [r_1.1]).bind fun r_2 =>
    (Z19 r_ K0_ k) r_2 v10 (wi (v12+1))
  else
   K0_ out
theorem Zcp {mL:Int}{Q:AExit→St→Prop}{r_:TT}{K0_:TT→Option (TT×Bool)}{k:Nat}{out:TT}{v10:TT}{v12:Int}{zout:Bool}(hzout:zout=true→out=[]) {zv10:Bool}(hzv10:zv10=true→v10=[]) {o:(TT×Bool)}(h:Z19 r_ K0_ k out v10 v12=some o)
  (hK0:Zcn K0_ o (Q (.exit 0)))
  (hr:∀ s,Ends a61.results 0 (Z6k o) .ret s→Q .ret s) :
  Sv Tryz.prog (GG mL) 0 (.loop a61_c0) Q ⟨(ue [(12,(I v12)),(11,(I (r_.length:Int))),(10,(lstV zv10 1 1 v10.length)),(4,(lstV zout 0 1 out.length))]),(upd (upd e0 0 (lstB zout 1 (out.map eStr))) 1 (lstB zv10 1 (v10.map eStr))),2⟩:=by
 refine Sv.loop (I:=Z8e r_ (Z19 r_ K0_) o) (fun k s hI=>?_) ⟨out,v10,v12,zout,hzout,zv10,hzv10,h,rfl⟩
 clear h
 clear hzv10 hzout zv10 zout v12 v10 out
 obtain ⟨out,v10,v12,zout,hzout,zv10,hzv10,h,rfl⟩:=hI
 cases k with
 | zero=>cases h
 | succ k =>
 rw [Z19] at h
 have hself:Zco r_ (Z19 r_ K0_ k) o (rnd 0 (Z8e r_ (Z19 r_ K0_) o) k Q):=fun out v10 v12 zout hzout zv10 hzv10 h s hw=>⟨_,k,hw,Nat.lt_succ_self k,out,v10,v12,zout,hzout,zv10,hzv10,h,rfl⟩
 refine ssr<|un1 (v:=(B (decide (v12<(r_.length:Int))))) rfl<|dnil<|Sv.seq ?_
 refine Sv.cnd rfl h (fun h=>?_) fun h=>?_
 ·refine Sv.skip<|Sv.seq<|Sv.block<|ssr ?_
  obtain ⟨x_,hx1,h⟩:=bnd h
  refine un1 (v:=(.c (.ref 1 1 v12.toNat 0))) (s_iaddrL rfl rfl hzv10 hx1)<|un1 (v:=(S x_)) (s_loadL (z:=zv10) (e:=eStr) rfl rfl hzv10 hx1 rfl rfl)<|un1 rfl<|dnil<|ssr<|un1 rfl ?_
  obtain ⟨r_1,hr2,h⟩:=bnd h
  refine un<|ac_pure (Zcm hr2) rfl rfl rfl<|un1 rfl<|un1 (v:=(S r_1.1)) rfl<|un1 (v:=(I r_1.2)) rfl<|un1 rfl<|un1 rfl<|dnil<|Sv.seq<|ssr<|un1 rfl<|un1 (v:=(B (!decide (r_1.2=0)))) rfl<|dnil ?_
  refine Sv.cnd rfl h (fun h=>?_) fun h=>?_
  ·refine ssr<|un1 rfl<|un1 rfl<|dnil<|Sv.ret ?_
   replace h:=Option.some.inj h
   subst h
   exact hr _ ⟨_,.refl _,_,rfl,⟨upd e0 0 (some (.tup [(lstV true 0 1 ([]:TT).length),(B false)])),(upd e0 0 (lstB true 1 (([]:TT).map eStr))),1⟩,(.tup [(lstV true 0 1 ([]:TT).length),(B false)]),weak_canon2 [1000] [0] (by decide) (by decide) nlz (.cons (by decide) .nil) (.cons rfl (avAs_tup (.cons (.c (.same rfl)) (.cons (avAs_free rfl) .nil))) .nil) (.non (by decide) .nil),rfl,true,(fun _=>rfl),rfl,rfl,rfl⟩
  ·refine Sv.skip<|srg<|un1 rfl<|un1 rfl<|un<|a2v (v:=(lstV false 2 1 [r_1.1].length)) (h' := upd _ 2 (lstB false 1 ([r_1.1].map eStr))) (n' := 3) rfl rfl hcs ?_
   obtain ⟨r_2,hr3,h⟩:=bnd h
   have hz1:(zout&&[r_1.1].isEmpty)=true→r_2=[]:=app_nil (z:=zout) (ys:=[r_1.1]) hzout hr3
   refine un<|a2v rfl (s_app (xs:=out) (ys:=[r_1.1]) (e:=eStr) (z:=zout) (b:=0) rfl rfl hzout rfl rfl (slc_lst rfl (List.length_map _).symm (map_nil_of hcs)) hr3) hcs<|un1 rfl<|dnil<|srg<|un1 (v:=(I (wi (v12+1)))) rfl<|un1 rfl<|dnil ?_
   exact hself r_2 v10 (wi (v12+1)) (zout&&[r_1.1].isEmpty) hz1 zv10 hzv10 h _ (wcn [3,1] rfl (.cf rfl rfl (.cf rfl rfl (.cons rfl (.c (lsr rfl rfl)) (.cons rfl (.c (lsr rfl rfl)) .nil)))) (.row (by decide) rfl (fr_map fun _=>rfl) (.row (by decide) rfl (fr_map fun _=>rfl) .nil)))
 ·refine Sv.exit ?_
  exact hK0 out zout hzout h _ (wcn [0] rfl (.cons rfl (.c (lsr rfl rfl)) .nil) (.row (by decide) rfl (fr_map fun _=>rfl) .nil))
noncomputable def Z2e (s_:Tx):Option (TT×Bool) :=
 (Z5b s_ [47]).bind fun r_ =>
 lim fun kk=>Z19 r_ (fun (out1:TT) => 
   some (out1,true)) kk ([]:TT) r_ 0
theorem Z8f {mL:Int}{s_:Tx}{r:(TT×Bool)}(h:Z2e s_=some r):ACalls Tryz.prog (GG mL) 61 [(S s_)] e0 0 (Z6k r):=by
 refine acalls_of_sv hmix c61 (R:=Z6k r) ?_
 unfold Z2e at h
 refine ssr<|un1 rfl<|un1 rfl<|dnil<|ssr<|un1 rfl<|dnil<|Sv.seq<|ssr<|un1 rfl ?_
 obtain ⟨r_,hr1,h⟩:=bnd h
 refine un<|ac_gen (bs:=[]) («as»:=[(S s_),(S [47])]) (h2:=_) (h1:=e0) (Z6a hr1) rfl (.cons (avAs_free rfl) (.cons (avAs_free rfl) .nil)) (hsub_refl _) (.nil _) (fun _=>rfl) (by decide) (by decide) (.cons (avAs_free rfl) (.cons (avAs_free rfl) .nil)) .nil ?_
 rintro _ _ _ hn ⟨z_,hz_,rfl,rfl,rfl⟩
 refine ⟨.inl rfl,(upd (rem [] _) 0 (lstB z_ 1 (r_.map eStr))),fun hbd=>(m3_cons (m3_row rfl (fr_map fun _=>rfl)) (m3_rem (in_nil _) (.cons (by decide) .nil) hbd)),(lstV z_ 0 1 r_.length),1,(by cases z_ <;> rfl),rfl,?_⟩
 refine un1 (v:=(I (r_.length:Int))) (s_lenL rfl (len_nil_of hz_))<|un1 rfl<|dnil<|Sv.block ?_
 obtain ⟨kk,h⟩:=lim_some h
 refine Sv.weak (wcn [1000,0] rfl (.cf rfl rfl (.cf rfl rfl (.cons rfl (.c (lsr rfl rfl)) (.cons rfl (.c (.same rfl)) .nil)))) (.row (by decide) rfl (fr_map fun _=>rfl) (.non (by decide) .nil))) (Zcp (fun _=>rfl) hz_ h ?_ (fun s hs=>hs))
 ·intro out1 zout1 hzout1 h _ hw1
  refine Sv.weak hw1<|ssr<|un1 rfl<|un1 rfl<|un1 rfl<|dnil<|Sv.ret ?_
  replace h:=Option.some.inj h
  subst h
  exact ⟨_,.refl _,_,rfl,⟨upd e0 0 (some (.tup [(lstV zout1 0 1 out1.length),(B true)])),(upd e0 0 (lstB zout1 1 (out1.map eStr))),1⟩,(.tup [(lstV zout1 0 1 out1.length),(B true)]),weak_canon2 [0] [0] (by decide) (by decide) nlz (.cons (by decide) .nil) (.cons rfl (avAs_tup (.cons (.c (lsr rfl rfl)) (.cons (avAs_free rfl) .nil))) .nil) (.row (by decide) rfl (fr_map fun _=>rfl) .nil),rfl,zout1,hzout1,rfl,rfl,rfl⟩
def a62_c0:ACode:=(sr [(mV 35 4),(mV 36 0),(oP 37 (.len (.tmp 36))),(oP 38 (.bin .sub (.tmp 37) (kI 1))),(oP 39 (.bin .eql (.tmp 35) (.tmp 38)))]
 (.cond (.tmp 39) (.region [(mV 40 3),(oP 41 (.bslice 1 [(.str [])] 1 [(0,(.const (.c (.str []))))])),(oP 42 (.app 1 16 (.tmp 40) (.tmp 41))),(mV 3 42)]) .skip))
def a62_c1:ACode:=(.region [(oP 43 (.bin .add (.tmp 8) (kI 1))),(mV 8 43)])
def a62_c2:ACode:=(sr [(oP 9 (.bin .lss (.tmp 8) (.tmp 7)))]
 (.seq (.cond (.tmp 9) .skip (.exit 0))
 (.seq (.block 1 (sr [(mV 10 8),(oP 11 (.iaddr 1 (.tmp 6) (.tmp 8))),(oP 12 (.load false 1 (.tmp 11))),(mV 4 10),(mV 5 12)]
 (.seq (sr [(mV 13 5),(oP 14 (.bin .neq (.tmp 13) (.const (.c (.str [46]))))),(mV 15 14),⟨(some 16),(.mov (.tmp 5)),(some (15,true))⟩,⟨(some 17),(.bin .neq (.tmp 16) (.const (.c (.str [46,46])))),(some (15,true))⟩,(oP 18 (.pick (.tmp 15) (.tmp 17) kF))]
 (.cond (.tmp 18) (sr [(mV 19 3),(mV 20 5),(oP 21 (.bslice 1 [(.str [])] 1 [(0,(.tmp 20))])),(oP 22 (.app 1 16 (.tmp 19) (.tmp 21))),(mV 3 22)]
 (.exit 1)) .skip))
 (.seq (sr [(mV 23 5),(oP 24 (.bin .eql (.tmp 23) (.const (.c (.str [46,46]))))),(mV 25 24),⟨(some 26),(.mov (.tmp 3)),(some (25,true))⟩,⟨(some 27),(.len (.tmp 26)),(some (25,true))⟩,⟨(some 28),(.bin .gtr (.tmp 27) (kI 0)),(some (25,true))⟩,(oP 29 (.pick (.tmp 25) (.tmp 28) kF))]
 (.cond (.tmp 29) (.region [(mV 30 3),(mV 31 3),(oP 32 (.len (.tmp 31))),(oP 33 (.bin .sub (.tmp 32) (kI 1))),(oP 34 (.slSl 1 (.tmp 30) none (some (.tmp 33)) none)),(mV 3 34)]) .skip))
 a62_c0))))
 a62_c1)))
def a62_c3:ACode:=(sr [(mV 48 3),(mV 2 48)]
 .ret)
def a62:AFunc:=⟨1,[(.tmp 2)],(sr [(oP 2 (.mov (.const (.c (.ro true 1 [])))))]
 (sr [(oP 3 (.mov (.const (.c (.ro true 1 [])))))]
 (.seq (sr [(mV 6 0),(oP 7 (.len (.tmp 6))),(oP 8 (.mov (kI 0)))]
 (.block 0 (.loop a62_c2)))
 (.seq (sr [(mV 44 3),(oP 45 (.len (.tmp 44))),(oP 46 (.bin .eql (.tmp 45) (kI 0)))]
 (.cond (.tmp 46) (.region [(oP 47 (.bslice 1 [(.str [])] 1 [(0,(.const (.c (.str []))))])),(mV 3 47)]) .skip))
 a62_c3))))⟩
theorem c62:compFunc Tryz.prog 62=some a62:=by kernel_rfl
def Z33 (r:TT):AV→Heap→Nat→Prop:=fun v h' n' => ∃ z0:Bool,(z0=true→r=[])∧v=(lstV z0 0 1 r.length)∧(h' = (upd e0 0 (lstB z0 1 (r.map eStr))))∧n' = 1
abbrev Z6l (l_:TT) (F_:TT→Int→Option TT) (o:TT) (R_:St→Prop):Prop:=∀(out:TT) (v8:Int) (zout:Bool) (_:zout=true→out=[]),F_ out v8=some o→∀ s,Weak 0 s ⟨(ue [(8,(I v8)),(7,(I (l_.length:Int))),(6,(.c (.ro false 1 (l_.map eStr)))),(3,(lstV zout 0 1 out.length)),(0,(.c (.ro false 1 (l_.map eStr))))]),(upd e0 0 (lstB zout 1 (out.map eStr))),1⟩→R_ s
abbrev Z6m (F_:TT→Option TT) (o:TT) (R_:St→Prop):Prop:=∀(out1:TT) (zout1:Bool) (_:zout1=true→out1=[]),F_ out1=some o→∀ s,Weak 0 s ⟨(upd e0 3 (some (lstV zout1 0 1 out1.length))),(upd e0 0 (lstB zout1 1 (out1.map eStr))),1⟩→R_ s
noncomputable def Z2f (v8:Int) (l_:TT) (self:TT→Int→Option TT) (K0_:TT→Option TT) (out2:TT):Option TT :=
 self out2 (wi (v8+1))
theorem Z6n {mL:Int}{Q:AExit→St→Prop}{v8:Int}{l_:TT}{self:TT→Int→Option TT}{K0_:TT→Option TT}{out2:TT}{zout2:Bool}(hzout2:zout2=true→out2=[]) {o:TT}(h:Z2f v8 l_ self K0_ out2=some o)
  (hself:Z6l l_ self o (Q .normal))
  (hK0:Z6m K0_ o (Q (.exit 0)))
  (hr:∀ s,Ends a62.results 0 (Z33 o) .ret s→Q .ret s) :
  Sv Tryz.prog (GG mL) 0 a62_c1 Q ⟨(ue [(8,(I v8)),(7,(I (l_.length:Int))),(6,(.c (.ro false 1 (l_.map eStr)))),(3,(lstV zout2 0 1 out2.length)),(0,(.c (.ro false 1 (l_.map eStr))))]),(upd e0 0 (lstB zout2 1 (out2.map eStr))),1⟩:=by
 unfold Z2f at h
 refine srg<|un1 (v:=(I (wi (v8+1)))) rfl<|un1 rfl<|dnil ?_
 exact hself out2 (wi (v8+1)) zout2 hzout2 h _ (wcn [0] rfl (.cf rfl rfl (.cf rfl rfl (.cf rfl rfl (.cons rfl (.c (lsr rfl rfl)) (.cf rfl rfl .nil))))) (.row (by decide) rfl (fr_map fun _=>rfl) .nil))
abbrev Zcq (mL:Int) (Q:AExit→St→Prop):AExit→St→Prop:=AThen (Sv Tryz.prog (GG mL) 0 a62_c1 Q) Q
abbrev Zcr (mL:Int) (Q:AExit→St→Prop):AExit→St→Prop:=ABlock 1 (Zcq mL Q)
noncomputable def Z34 (v8:Int) (l_:TT) (self:TT→Int→Option TT) (K0_:TT→Option TT) (out3:TT):Option TT :=
 if decide (v8=(wi ((l_.length:Int) - 1))) then
  (app? 16 out3 ([[]]:TT)).bind fun r_1 =>
  Z2f v8 l_ self K0_ r_1
 else
  Z2f v8 l_ self K0_ out3
theorem Z8g {mL:Int}{Q:AExit→St→Prop}{v8:Int}{l_:TT}{self:TT→Int→Option TT}{K0_:TT→Option TT}{out3:TT}{zout3:Bool}(hzout3:zout3=true→out3=[]) {o:TT}(h:Z34 v8 l_ self K0_ out3=some o)
  (hself:Z6l l_ self o (Q .normal))
  (hK0:Z6m K0_ o (Q (.exit 0)))
  (hr:∀ s,Ends a62.results 0 (Z33 o) .ret s→Q .ret s) :
  Sv Tryz.prog (GG mL) 0 a62_c0 (Zcr mL Q) ⟨(ue [(8,(I v8)),(7,(I (l_.length:Int))),(6,(.c (.ro false 1 (l_.map eStr)))),(4,(I v8)),(3,(lstV zout3 0 1 out3.length)),(0,(.c (.ro false 1 (l_.map eStr))))]),(upd e0 0 (lstB zout3 1 (out3.map eStr))),1⟩:=by
 unfold Z34 at h
 refine ssr<|un1 rfl<|un1 rfl<|un1 (v:=(I (l_.length:Int))) (s_len (e:=eStr) (xs:=l_) rfl)<|un1 (v:=(I (wi ((l_.length:Int) - 1)))) rfl<|un1 (v:=(B (decide (v8=(wi ((l_.length:Int) - 1)))))) rfl<|dnil ?_
 refine Sv.cnd rfl h (fun h=>?_) fun h=>?_
 ·refine srg<|un1 rfl<|un<|a2v (v:=(lstV false 1 1 ([[]]:TT).length)) (h' := upd _ 1 (lstB false 1 (([[]]:TT).map eStr))) (n' := 2) rfl rfl hcs ?_
  obtain ⟨r_1,hr2,h⟩:=bnd h
  have hz2:(zout3&&([[]]:TT).isEmpty)=true→r_1=[]:=app_nil (z:=zout3) (ys:=([[]]:TT)) hzout3 hr2
  refine un<|a2v rfl (s_app (xs:=out3) (ys:=([[]]:TT)) (e:=eStr) (z:=zout3) (b:=0) rfl rfl hzout3 rfl rfl (slc_lst rfl (List.length_map _).symm (map_nil_of hcs)) hr2) hcs<|un1 rfl<|dnil ?_
  exact Sv.weak (wcn [2] rfl (.cf rfl rfl (.cf rfl rfl (.cf rfl rfl (.cons rfl (.c (lsr rfl rfl)) (.cf rfl rfl .nil))))) (.row (by decide) rfl (fr_map fun _=>rfl) .nil)) (Z6n hz2 h hself hK0 hr)
 ·refine Sv.skip ?_
  exact Sv.weak (wcn [0] rfl (.cf rfl rfl (.cf rfl rfl (.cf rfl rfl (.cons rfl (.c (lsr rfl rfl)) (.cf rfl rfl .nil))))) (.row (by decide) rfl (fr_map fun _=>rfl) .nil)) (Z6n hzout3 h hself hK0 hr)
abbrev Z8h (l_:TT) (F_:Nat→TT→Int→Option TT) (o:TT):Nat→St→Prop:=fun k s=>∃(out:TT),∃(v8:Int),∃(zout:Bool),(zout=true→out=[])∧F_ k out v8=some o∧s=⟨(ue [(8,(I v8)),(7,(I (l_.length:Int))),(6,(.c (.ro false 1 (l_.map eStr)))),(3,(lstV zout 0 1 out.length)),(0,(.c (.ro false 1 (l_.map eStr))))]),(upd e0 0 (lstB zout 1 (out.map eStr))),1⟩
noncomputable def Z2 (l_:TT) (K0_:TT→Option TT):Nat→TT→Int→Option TT
 | 0,_,_=>none
 | k+1,out,v8 =>
  if decide (v8<(l_.length:Int)) then
   (at? l_ v8).bind fun x_ =>
   if ((!decide (x_=[46]))&&(!decide (x_=[46,46]))) then
    (app? 16 out [x_]).bind fun r_ =>
    Z2f v8 l_ (Z2 l_ K0_ k) K0_ r_
   else
    if ((decide (x_=[46,46]))&&(decide (0<(out.length:Int)))) then
     (sub? out 0 (wi ((out.length:Int) - 1))).bind fun r_2 =>
     Z34 v8 l_ (Z2 l_ K0_ k) K0_ r_2
    else
     Z34 v8 l_ (Z2 l_ K0_ k) K0_ out
  else
   K0_ out
theorem Zcs {mL:Int}{Q:AExit→St→Prop}{l_:TT}{K0_:TT→Option TT}{k:Nat}{out:TT}{v8:Int}{zout:Bool}(hzout:zout=true→out=[]) {o:TT}(h:Z2 l_ K0_ k out v8=some o)
  (hK0:Z6m K0_ o (Q (.exit 0)))
  (hr:∀ s,Ends a62.results 0 (Z33 o) .ret s→Q .ret s) :
  Sv Tryz.prog (GG mL) 0 (.loop a62_c2) Q ⟨(ue [(8,(I v8)),(7,(I (l_.length:Int))),(6,(.c (.ro false 1 (l_.map eStr)))),(3,(lstV zout 0 1 out.length)),(0,(.c (.ro false 1 (l_.map eStr))))]),(upd e0 0 (lstB zout 1 (out.map eStr))),1⟩:=by
 refine Sv.loop (I:=Z8h l_ (Z2 l_ K0_) o) (fun k s hI=>?_) ⟨out,v8,zout,hzout,h,rfl⟩
 clear h
 clear hzout zout v8 out
 obtain ⟨out,v8,zout,hzout,h,rfl⟩:=hI
 cases k with
 | zero=>cases h
 | succ k =>
 rw [Z2] at h
 have hself:Z6l l_ (Z2 l_ K0_ k) o (rnd 0 (Z8h l_ (Z2 l_ K0_) o) k Q):=fun out v8 zout hzout h s hw=>⟨_,k,hw,Nat.lt_succ_self k,out,v8,zout,hzout,h,rfl⟩
 refine ssr<|un1 (v:=(B (decide (v8<(l_.length:Int))))) rfl<|dnil<|Sv.seq ?_
 refine Sv.cnd rfl h (fun h=>?_) fun h=>?_
 ·refine Sv.skip<|Sv.seq<|Sv.block<|ssr<|un1 rfl ?_
  obtain ⟨x_,hx1,h⟩:=bnd h
  refine un1 (v:=(.c (.rop [.str x_]))) (s_iaddr (e:=eStr) (xs:=l_) rfl rfl hx1)<|un1 (v:=(S x_)) rfl<|un1 rfl<|un1 rfl<|dnil<|Sv.seq<|ssr<|un1 rfl<|un1 (v:=(B (!decide (x_=[46])))) rfl<|un1 rfl ?_
  refine gjoin 3 (d:=18) (v:=(B ((!decide (x_=[46]))&&(!decide (x_=[46,46]))))) (fun X hX=>?_) ?_
  ·refine split2 (fun hc2=>?_) (fun hc2=>?_)
   ·refine gt rfl<|a1 rfl<|gt rfl<|a1 (v:=(B (!decide (x_=[46,46])))) rfl<|un1 (v:=(B (!decide (x_=[46,46])))) rfl<|dnil ?_
    exact hX _ (.putEq (by rw [hc2]; rfl) (.skp (.skp (.putEq (by rw [hc2]) (.refl _)) rfl) rfl))
   ·refine gs rfl rfl<|gs rfl rfl<|un1 (v:=(B false)) rfl<|dnil ?_
    exact hX _ (.putEq (by rw [hc2]; rfl) (.skp (.skp (.putEq (by rw [hc2]) (.refl _)) rfl) rfl))
  refine dnil ?_
  refine Sv.cnd rfl h (fun h=>?_) fun h=>?_
  ·refine ssr<|un1 rfl<|un1 rfl<|un<|a2v (v:=(lstV false 1 1 [x_].length)) (h' := upd _ 1 (lstB false 1 ([x_].map eStr))) (n' := 2) rfl rfl hcs ?_
   obtain ⟨r_,hr1,h⟩:=bnd h
   have hz1:(zout&&[x_].isEmpty)=true→r_=[]:=app_nil (z:=zout) (ys:=[x_]) hzout hr1
   refine un<|a2v rfl (s_app (xs:=out) (ys:=[x_]) (e:=eStr) (z:=zout) (b:=0) rfl rfl hzout rfl rfl (slc_lst rfl (List.length_map _).symm (map_nil_of hcs)) hr1) hcs<|un1 rfl<|dnil<|Sv.exit ?_
   exact Sv.weak (wcn [2] rfl (.cf rfl rfl (.cf rfl rfl (.cf rfl rfl (.cons rfl (.c (lsr rfl rfl)) (.cf rfl rfl .nil))))) (.row (by decide) rfl (fr_map fun _=>rfl) .nil)) (Z6n hz1 h hself hK0 hr)
  ·refine Sv.skip<|Sv.seq<|ssr<|un1 rfl<|un1 (v:=(B (decide (x_=[46,46])))) rfl<|un1 rfl ?_
   refine gjoin 4 (d:=29) (v:=(B ((decide (x_=[46,46]))&&(decide (0<(out.length:Int)))))) (fun X hX=>?_) ?_
   ·refine split2 (fun hc5=>?_) (fun hc5=>?_)
    ·refine gt rfl<|a1 rfl<|gt rfl<|a1 (v:=(I (out.length:Int))) (s_lenL rfl (len_nil_of hzout))<|gt rfl<|a1 (v:=(B (decide (0<(out.length:Int))))) rfl<|un1 (v:=(B (decide (0<(out.length:Int))))) rfl<|dnil ?_
     exact hX _ (.putEq (by rw [hc5]; rfl) (.skp (.skp (.skp (.putEq (by rw [hc5]) (.refl _)) rfl) rfl) rfl))
    ·refine gs rfl rfl<|gs rfl rfl<|gs rfl rfl<|un1 (v:=(B false)) rfl<|dnil ?_
     exact hX _ (.putEq (by rw [hc5]; rfl) (.skp (.skp (.skp (.putEq (by rw [hc5]) (.refl _)) rfl) rfl) rfl))
   refine dnil ?_
   refine Sv.cnd rfl h (fun h=>?_) fun h=>?_
   ·refine srg<|un1 rfl<|un1 rfl<|un1 (v:=(I (out.length:Int))) (s_lenL rfl (len_nil_of hzout))<|un1 (v:=(I (wi ((out.length:Int) - 1)))) rfl ?_
    obtain ⟨r_2,hx2,h⟩:=bnd h
    refine un1 (v:=(cutV zout 0 1 r_2.length out.length)) (s_cutL rfl hzout rfl rfl hx2)<|dweak (show Weak 0 _ ⟨(ue [(34,(lstV zout 0 1 r_2.length)),(33,(I (wi ((out.length:Int) - 1)))),(32,(I (out.length:Int))),(29,(B ((decide (x_=[46,46]))&&(decide (0<(out.length:Int)))))),(25,(B (decide (x_=[46,46])))),(24,(B (decide (x_=[46,46])))),(23,(S x_)),(18,(B ((!decide (x_=[46]))&&(!decide (x_=[46,46]))))),(15,(B (!decide (x_=[46])))),(14,(B (!decide (x_=[46])))),(13,(S x_)),(12,(S x_)),(11,(.c (.rop [.str x_]))),(10,(I v8)),(9,(B (decide (v8<(l_.length:Int))))),(8,(I v8)),(7,(I (l_.length:Int))),(6,(.c (.ro false 1 (l_.map eStr)))),(5,(S x_)),(4,(I v8)),(0,(.c (.ro false 1 (l_.map eStr))))]),(upd e0 0 (lstB zout 1 (r_2.map eStr))),1⟩ from (wcn [0] rfl (.cons rfl (.c (cut_ren rfl (by decide) (cut_le hx2))) (.cf rfl rfl (.cf rfl rfl (.cf rfl rfl (.cf rfl rfl (.cf rfl rfl (.cf rfl rfl (.cf rfl rfl (.cf rfl rfl (.cf rfl rfl (.cf rfl rfl (.cf rfl rfl (.cf rfl rfl (.cf rfl rfl (.cf rfl rfl (.cf rfl rfl (.cf rfl rfl (.cf rfl rfl (.cf rfl rfl (.cf rfl rfl (.cf rfl rfl .nil))))))))))))))))))))) (.rowP (by decide) rfl (cutP hx2) (fr_map fun _=>rfl) .nil)))<|un1 rfl<|dnil ?_
    exact Sv.weak (wcn [0] rfl (.cf rfl rfl (.cf rfl rfl (.cf rfl rfl (.cf rfl rfl (.cons rfl (.c (lsr rfl rfl)) (.cf rfl rfl .nil)))))) (.row (by decide) rfl (fr_map fun _=>rfl) .nil)) (Z8g (cut_nil hzout hx2) h hself hK0 hr)
   ·refine Sv.skip ?_
    exact Sv.weak (wcn [0] rfl (.cf rfl rfl (.cf rfl rfl (.cf rfl rfl (.cf rfl rfl (.cons rfl (.c (lsr rfl rfl)) (.cf rfl rfl .nil)))))) (.row (by decide) rfl (fr_map fun _=>rfl) .nil)) (Z8g hzout h hself hK0 hr)
 ·refine Sv.exit ?_
  exact hK0 out zout hzout h _ (wcn [0] rfl (.cons rfl (.c (lsr rfl rfl)) .nil) (.row (by decide) rfl (fr_map fun _=>rfl) .nil))
noncomputable def Z43 (out4:TT):Option TT :=
 some out4
theorem Z8i {mL:Int}{out4:TT}{zout4:Bool}(hzout4:zout4=true→out4=[]) {o:TT}(h:Z43 out4=some o) :
  Sv Tryz.prog (GG mL) 0 a62_c3 (Ends a62.results 0 (Z33 o)) ⟨(upd e0 3 (some (lstV zout4 0 1 out4.length))),(upd e0 0 (lstB zout4 1 (out4.map eStr))),1⟩:=by
 unfold Z43 at h
 refine ssr<|un1 rfl<|un1 rfl<|dnil<|Sv.ret ?_
 replace h:=Option.some.inj h
 subst h
 exact ⟨_,.refl _,_,rfl,⟨upd e0 0 (some (lstV zout4 0 1 out4.length)),(upd e0 0 (lstB zout4 1 (out4.map eStr))),1⟩,(lstV zout4 0 1 out4.length),weak_canon2 [0] [0] (by decide) (by decide) nlz (.cons (by decide) .nil) (.cons rfl (.c (lsr rfl rfl)) .nil) (.row (by decide) rfl (fr_map fun _=>rfl) .nil),rfl,zout4,hzout4,rfl,rfl,rfl⟩
noncomputable def Z2g (l_:TT):Option TT :=
 lim fun kk=>Z2 l_ (fun (out1:TT) => 
   if decide ((out1.length:Int)=0) then
    Z43 ([[]]:TT)
   else
    Z43 out1) kk ([]:TT) 0
theorem Z8j {mL:Int}{l_:TT}{r:TT}(h:Z2g l_=some r):ACalls Tryz.prog (GG mL) 62 [(.c (.ro false 1 (l_.map eStr)))] e0 0 (Z33 r):=by
 refine acalls_of_sv hmix c62 (R:=Z33 r) ?_
 unfold Z2g at h
 refine ssr<|un1 rfl<|dnil<|ssr<|un1 rfl<|dnil<|Sv.seq<|ssr<|un1 rfl<|un1 (v:=(I (l_.length:Int))) (s_len (e:=eStr) (xs:=l_) rfl)<|un1 rfl<|dnil<|Sv.block ?_
 obtain ⟨kk,h⟩:=lim_some h
 refine Sv.weak (wcn [1000] rfl (.cf rfl rfl (.cf rfl rfl (.cf rfl rfl (.cons rfl (.c (.same rfl)) (.cf rfl rfl .nil))))) (.non (by decide) .nil)) (Zcs (fun _=>rfl) h ?_ (fun s hs=>hs))
 ·intro out1 zout1 hzout1 h _ hw1
  refine Sv.weak hw1<|Sv.seq<|ssr<|un1 rfl<|un1 (v:=(I (out1.length:Int))) (s_lenL rfl (len_nil_of hzout1))<|un1 (v:=(B (decide ((out1.length:Int)=0)))) rfl<|dnil ?_
  refine Sv.cnd rfl h (fun h=>?_) fun h=>?_
  ·refine srg<|un<|a2v (v:=(lstV false 1 1 ([[]]:TT).length)) (h' := upd _ 1 (lstB false 1 (([[]]:TT).map eStr))) (n' := 2) rfl rfl hcs<|un1 rfl<|dnil ?_
   exact Sv.weak (wcn [1] rfl (.cons rfl (.c (lsr rfl rfl)) .nil) (.row (by decide) rfl (fr_map fun _=>rfl) .nil)) (Z8i hcs h)
  ·refine Sv.skip ?_
   exact Sv.weak (wcn [0] rfl (.cons rfl (.c (lsr rfl rfl)) .nil) (.row (by decide) rfl (fr_map fun _=>rfl) .nil)) (Z8i hzout1 h)
def a39_c0:ACode:=(.seq (sr [(mV 44 6),(mV 45 9),(oP 46 (.slStr (.tmp 44) none (some (.tmp 45)))),(oP 47 (.call 59 [(.tmp 4),(.tmp 46)])),(oP 48 (.un .not (.tmp 47)))]
 (.cond (.tmp 48) (sr [(oP 49 (.build [(.str []),(.str []),(.val (.int .i64 0)),(.ro true 1 []),(.str []),(.val (.bool false)),(.str []),(.val (.bool false))] [])),(oN (.store 8 (.tmp 2) (.tmp 49))),(oP 3 (.mov (kI 3)))]
 .ret) .skip))
 (sr [(mV 51 6),(mV 52 9),(oP 53 (.slStr (.tmp 51) (some (.tmp 52)) none)),(oP 54 (.call 60 [(.tmp 4),(.tmp 53)])),(mV 50 54),(oP 55 (.ext (.tmp 50) 0)),(oP 56 (.ext (.tmp 50) 1)),(mV 10 55),(mV 11 56)]
 (sr [(mV 58 10),(oP 59 (.call 28 [(.tmp 58),(.const (.c (.str [47])))])),(oP 60 (.call 61 [(.tmp 59)])),(mV 57 60),(oP 61 (.ext (.tmp 57) 0)),(oP 62 (.ext (.tmp 57) 1)),(mV 12 61),(mV 13 62)]
 (.seq (sr [(mV 63 11),(oP 64 (.un .not (.tmp 63))),(mV 65 64),⟨(some 66),(.mov (.tmp 13)),(some (65,false))⟩,⟨(some 67),(.un .not (.tmp 66)),(some (65,false))⟩,(oP 68 (.pick (.tmp 65) kT (.tmp 67)))]
 (.cond (.tmp 68) (sr [(oP 69 (.build [(.str []),(.str []),(.val (.int .i64 0)),(.ro true 1 []),(.str []),(.val (.bool false)),(.str []),(.val (.bool false))] [])),(oN (.store 8 (.tmp 2) (.tmp 69))),(oP 3 (.mov (kI 3)))]
 .ret) .skip))
 (sr [(mV 70 12),(oP 71 (.call 62 [(.tmp 70)])),(oP 72 (.faddr 3 (.tmp 4))),(oN (.store 1 (.tmp 72) (.tmp 71)))]
 (sr [(oP 73 (.load true 8 (.tmp 4))),(oN (.store 8 (.tmp 2) (.tmp 73))),(oP 3 (.mov (kI 0)))]
 .ret))))))
def a39:AFunc:=⟨1,[(.cell true 8 2),(.tmp 3)],(sr [(oP 2 (.box (.const (.agg [(.str []),(.str []),(.val (.int .i64 0)),(.ro true 1 []),(.str []),(.val (.bool false)),(.str []),(.val (.bool false))])))),(oP 3 (.mov (kI 0)))]
 (.seq (sr [(mV 14 0),(oP 15 (.lenS (.tmp 14))),(oP 16 (.bin .gtr (.tmp 15) (kI 500)))]
 (.cond (.tmp 16) (sr [(oP 17 (.build [(.str []),(.str []),(.val (.int .i64 0)),(.ro true 1 []),(.str []),(.val (.bool false)),(.str []),(.val (.bool false))] [])),(oN (.store 8 (.tmp 2) (.tmp 17))),(oP 3 (.mov (kI 2)))]
 .ret) .skip))
 (sr [(oP 4 (.box (.const (.agg [(.str []),(.str []),(.val (.int .i64 0)),(.ro true 1 []),(.str []),(.val (.bool false)),(.str []),(.val (.bool false))]))))]
 (sr [(mV 19 0),(oP 20 (.call 40 [(.tmp 19)])),(mV 18 20),(oP 21 (.ext (.tmp 18) 0)),(oP 22 (.ext (.tmp 18) 1)),(oP 23 (.ext (.tmp 18) 2)),(mV 5 21),(mV 6 22),(mV 7 23)]
 (sr [(mV 25 6),(oP 26 (.call 57 [(.tmp 25),(.const (.c (.str [47,47])))])),(mV 24 26),(oP 27 (.ext (.tmp 24) 0)),(oP 28 (.ext (.tmp 24) 1)),(mV 6 27),(mV 8 28)]
 (.seq (sr [(mV 29 7),(oP 30 (.un .not (.tmp 29))),(mV 31 30),⟨(some 32),(.mov (.tmp 8)),(some (31,false))⟩,⟨(some 33),(.un .not (.tmp 32)),(some (31,false))⟩,(oP 34 (.pick (.tmp 31) kT (.tmp 33)))]
 (.cond (.tmp 34) (sr [(oP 35 (.build [(.str []),(.str []),(.val (.int .i64 0)),(.ro true 1 []),(.str []),(.val (.bool false)),(.str []),(.val (.bool false))] [])),(oN (.store 8 (.tmp 2) (.tmp 35))),(oP 3 (.mov (kI 3)))]
 .ret) .skip))
 (sr [(mV 36 5),(oP 37 (.faddr 0 (.tmp 4))),(oN (.store 1 (.tmp 37) (.tmp 36)))]
 (sr [(mV 38 6),(oP 39 (.call 58 [(.tmp 38),(.const (.c (.str [47,63,35])))])),(mV 9 39)]
 (.seq (sr [(mV 40 9),(oP 41 (.bin .lss (.tmp 40) (kI 0)))]
 (.cond (.tmp 41) (.region [(mV 42 6),(oP 43 (.lenS (.tmp 42))),(mV 9 43)]) .skip))
 a39_c0)))))))))⟩
theorem c39:compFunc Tryz.prog 39=some a39:=by kernel_rfl
def Z8k (r:(TJUrl×Int)):AV→Heap→Nat→Prop:=fun v h' n' => v=(.tup [(.agg [.str r.1.Scheme,.str r.1.Host,cI r.1.Port,.ro false 1 (r.1.Path.map eStr),.str r.1.Query,cB r.1.Asks,.str r.1.Fragment,cB r.1.Points]),(I r.2)])∧(h' = e0)∧n' = 0
noncomputable def Z35 (r_1:(Tx×Bool)) (r_:(Tx×Tx×Bool)) (n_:Int):Option (TJUrl×Int) :=
 (sub? r_1.1 0 n_).bind fun r_3 =>
 (Z41 (⟨r_.1,[],0,[],[],false,[],false⟩:TJUrl) r_3).bind fun r_4 =>
 if (!r_4.1) then
  some ((⟨[],[],0,[],[],false,[],false⟩:TJUrl),3)
 else
  (sub? r_1.1 n_ (r_1.1.length:Int)).bind fun r_5 =>
  (Z2c r_4.2 r_5).bind fun r_6 =>
  (Z7 r_6.1 [47]).bind fun r_7 =>
  (Z2e r_7).bind fun r_8 =>
  if ((!r_6.2.1)||(!r_8.2)) then
   some ((⟨[],[],0,[],[],false,[],false⟩:TJUrl),3)
  else
   (Z2g r_8.1).bind fun r_9 =>
   some ((⟨r_6.2.2.Scheme,r_6.2.2.Host,r_6.2.2.Port,r_9,r_6.2.2.Query,r_6.2.2.Asks,r_6.2.2.Fragment,r_6.2.2.Points⟩:TJUrl),0)
theorem Z8l {mL:Int}{r_1:(Tx×Bool)}{r_:(Tx×Tx×Bool)}{n_:Int}{o:(TJUrl×Int)}(h:Z35 r_1 r_ n_=some o) :
  Sv Tryz.prog (GG mL) 0 a39_c0 (Ends a39.results 0 (Z8k o)) ⟨(ue [(9,(I n_)),(6,(S r_1.1)),(4,(.c (.ref 1 8 0 0))),(2,(.c (.ref 0 8 0 0)))]),(upd (upd e0 0 (some (.cells 8 [[.str [],.str [],cI 0,.ro true 1 [],.str [],cB false,.str [],cB false]]))) 1 (some (.cells 8 [[.str r_.1,.str [],cI 0,.ro true 1 [],.str [],cB false,.str [],cB false]]))),2⟩:=by
 unfold Z35 at h
 refine Sv.seq<|ssr<|un1 rfl<|un1 rfl ?_
 obtain ⟨r_3,hx1,h⟩:=bnd h
 refine un1 (v:=(S r_3)) (s_slStr rfl rfl rfl hx1)<|dweak (show Weak 0 _ ⟨(ue [(46,(S r_3)),(45,(I n_)),(44,(S r_1.1)),(9,(I n_)),(6,(S r_1.1)),(4,(.c (.ref 1 8 0 0))),(2,(.c (.ref 0 8 0 0)))]),(upd (upd (upd e0 0 (some (.cells 8 [[.str [],.str [],cI 0,.ro true 1 [],.str [],cB false,.str [],cB false]]))) 1 (some (.cells 8 [[.str r_.1,.str [],cI 0,lstC true 2 1 ([]:TT).length,.str [],cB false,.str [],cB false]]))) 2 (lstB true 1 (([]:TT).map eStr))),3⟩ from (wcn [0,1,1002] rfl (.cf rfl rfl (.cf rfl rfl (.cf rfl rfl (.cf rfl rfl (.cf rfl rfl (.cr rfl rfl rfl (.cr rfl rfl rfl .nil))))))) (.non (by decide) (.box (by decide) rfl (blkAs_cells (.sm rfl (.sm rfl (.sm rfl (.sm rfl (.sm rfl (.sm rfl (.sm rfl (.sm rfl .nil))))))))) (.box (by decide) rfl (blkAs_cells (.sm rfl (.sm rfl (.sm rfl (.sm rfl (.sm rfl (.sm rfl (.sm rfl (.sm rfl .nil))))))))) .nil))))) ?_
 obtain ⟨r_4,hr4,h⟩:=bnd h
 refine un<|ac_gen (bs:=[1,2]) («as»:=[(.c (.ref 1 8 0 0)),(S r_3)]) (h2:=_) (h1:=(upd (upd e0 1 (some (.cells 8 [[.str r_.1,.str [],cI 0,lstC true 2 1 ([]:TT).length,.str [],cB false,.str [],cB false]]))) 2 (lstB true 1 (([]:TT).map eStr)))) (Zca (fun _=>rfl) hr4) rfl (.cons (.c (.ref rfl (by decide))) (.cons (avAs_free rfl) .nil)) (hsub_refl _) (.cons rfl (.cons rfl (.nil _))) hcs (by decide) (by decide) (.cons (.c (.ref rfl (by decide))) (.cons (avAs_free rfl) .nil)) (.row (by decide) rfl (fr_map fun _=>rfl) (.box (by decide) rfl (blkAs_cells (.sm rfl (.sm rfl (.sm rfl (.cons (lstC_ren rfl (by decide)) (.sm rfl (.sm rfl (.sm rfl (.sm rfl .nil))))))))) .nil)) ?_
 rintro _ _ _ hn ⟨z_,hz_,rfl,rfl,rfl⟩
 refine ⟨.inl rfl,(upd (upd (rem [1,2] _) 1 (some (.cells 8 [[.str r_4.2.Scheme,.str r_4.2.Host,cI r_4.2.Port,lstC z_ 3 1 r_4.2.Path.length,.str r_4.2.Query,cB r_4.2.Asks,.str r_4.2.Fragment,cB r_4.2.Points]]))) 3 (lstB z_ 1 (r_4.2.Path.map eStr))),fun hbd=>(m3_cons (m3_row rfl (fr_map fun _=>rfl)) (m3_cons (m3_box rfl (by cases z_ <;> rfl)) (m3_rem (in_cons (by decide) (in_cons (by decide) (in_nil _))) (.cons (by decide) (.cons (by decide) .nil)) hbd))),(B r_4.1),4,(by cases z_ <;> rfl),rfl,?_⟩
 refine un1 (v:=(B (!r_4.1))) rfl<|dnil ?_
 refine Sv.cnd rfl h (fun h=>?_) fun h=>?_
 ·refine ssr<|un1 (v:=(.agg [.str [],.str [],cI 0,.ro true 1 [],.str [],cB false,.str [],cB false])) rfl<|un<|a2n (h' := upd _ 0 (some (.cells 8 [[.str [],.str [],cI 0,.ro true 1 [],.str [],cB false,.str [],cB false]]))) (n' := 4) rfl rfl hcs<|un1 rfl<|dnil<|Sv.ret ?_
  replace h:=Option.some.inj h
  subst h
  exact ⟨_,.refl _,_,rfl,⟨upd e0 0 (some (.tup [(.agg [.str [],.str [],cI 0,.ro false 1 (([]:TT).map eStr),.str [],cB false,.str [],cB false]),(I 3)])),e0,0⟩,(.tup [(.agg [.str [],.str [],cI 0,.ro false 1 (([]:TT).map eStr),.str [],cB false,.str [],cB false]),(I 3)]),weak_canon [] rfl ndl nll nlz (.cons rfl (avAs_tup (.cons (avAs_agg (.sm rfl (.sm rfl (.sm rfl (.cons .nil (.sm rfl (.sm rfl (.sm rfl (.sm rfl .nil))))))))) (.cons (avAs_free rfl) .nil))) .nil) .nil,rfl,rfl,rfl,rfl⟩
 ·refine Sv.skip<|ssr<|un1 rfl<|un1 rfl ?_
  obtain ⟨r_5,hx2,h⟩:=bnd h
  refine un1 (v:=(S r_5)) (s_slStr rfl rfl rfl hx2) ?_
  obtain ⟨r_6,hr5,h⟩:=bnd h
  refine un<|ac_gen (bs:=[1,3]) («as»:=[(.c (.ref 1 8 0 0)),(S r_5)]) (h2:=_) (h1:=(upd (upd e0 1 (some (.cells 8 [[.str r_4.2.Scheme,.str r_4.2.Host,cI r_4.2.Port,lstC z_ 3 1 r_4.2.Path.length,.str r_4.2.Query,cB r_4.2.Asks,.str r_4.2.Fragment,cB r_4.2.Points]]))) 3 (lstB z_ 1 (r_4.2.Path.map eStr)))) (Z8b hz_ hr5) rfl (.cons (.c (.ref rfl (by decide))) (.cons (avAs_free rfl) .nil)) (hsub_refl _) (.cons rfl (.cons rfl (.nil _))) hcs (by decide) (by decide) (.cons (.c (.ref rfl (by decide))) (.cons (avAs_free rfl) .nil)) (.row (by decide) rfl (fr_map fun _=>rfl) (.box (by decide) rfl (blkAs_cells (.sm rfl (.sm rfl (.sm rfl (.cons (lstC_ren rfl (by decide)) (.sm rfl (.sm rfl (.sm rfl (.sm rfl .nil))))))))) .nil)) ?_
  rintro _ _ _ hn ⟨z_1,hz_1,rfl,rfl,rfl⟩
  refine ⟨.inl rfl,(upd (upd (rem [1,3] _) 1 (some (.cells 8 [[.str r_6.2.2.Scheme,.str r_6.2.2.Host,cI r_6.2.2.Port,lstC z_1 4 1 r_6.2.2.Path.length,.str r_6.2.2.Query,cB r_6.2.2.Asks,.str r_6.2.2.Fragment,cB r_6.2.2.Points]]))) 4 (lstB z_1 1 (r_6.2.2.Path.map eStr))),fun hbd=>(m3_cons (m3_row rfl (fr_map fun _=>rfl)) (m3_cons (m3_box rfl (by cases z_1 <;> rfl)) (m3_rem (in_cons (by decide) (in_cons (by decide) (in_nil _))) (.cons (by decide) (.cons (by decide) .nil)) hbd))),(.tup [(S r_6.1),(B r_6.2.1)]),5,(by cases z_1 <;> rfl),rfl,?_⟩
  refine un1 rfl<|un1 (v:=(S r_6.1)) rfl<|un1 (v:=(B r_6.2.1)) rfl<|un1 rfl<|un1 rfl<|dnil<|ssr<|un1 rfl ?_
  obtain ⟨r_7,hr6,h⟩:=bnd h
  refine un<|ac_pure (Z2d hr6) rfl rfl rfl ?_
  obtain ⟨r_8,hr7,h⟩:=bnd h
  refine un<|ac_gen (bs:=[]) («as»:=[(S r_7)]) (h2:=_) (h1:=e0) (Z8f hr7) rfl (.cons (avAs_free rfl) .nil) (hsub_refl _) (.nil _) (fun _=>rfl) (by decide) (by decide) (.cons (avAs_free rfl) .nil) .nil ?_
  rintro _ _ _ hn ⟨z_2,hz_2,rfl,rfl,rfl⟩
  refine ⟨.inl rfl,(upd (rem [] _) 5 (lstB z_2 1 (r_8.1.map eStr))),fun hbd=>(m3_cons (m3_row rfl (fr_map fun _=>rfl)) (m3_rem (in_nil _) (.cons (by decide) .nil) hbd)),(.tup [(lstV z_2 5 1 r_8.1.length),(B r_8.2)]),6,(by cases z_2 <;> rfl),rfl,?_⟩
  refine un1 rfl<|un1 (v:=(lstV z_2 5 1 r_8.1.length)) rfl<|un1 (v:=(B r_8.2)) rfl<|un1 rfl<|un1 rfl<|dnil<|Sv.seq<|ssr<|un1 rfl<|un1 (v:=(B (!r_6.2.1))) rfl<|un1 rfl ?_
  refine gjoin 3 (d:=68) (v:=(B ((!r_6.2.1)||(!r_8.2)))) (fun X hX=>?_) ?_
  ·refine split2 (fun hc5=>?_) (fun hc5=>?_)
   ·refine gs rfl rfl<|gs rfl rfl<|un1 (v:=(B true)) rfl<|dnil ?_
    exact hX _ (.putEq (by rw [hc5]; rfl) (.skp (.skp (.putEq (by rw [hc5]) (.refl _)) rfl) rfl))
   ·refine gt rfl<|a1 rfl<|gt rfl<|a1 (v:=(B (!r_8.2))) rfl<|un1 (v:=(B (!r_8.2))) rfl<|dnil ?_
    exact hX _ (.putEq (by rw [hc5]; rfl) (.skp (.skp (.putEq (by rw [hc5]) (.refl _)) rfl) rfl))
  refine dnil ?_
  refine Sv.cnd rfl h (fun h=>?_) fun h=>?_
  ·refine ssr<|un1 (v:=(.agg [.str [],.str [],cI 0,.ro true 1 [],.str [],cB false,.str [],cB false])) rfl<|un<|a2n (h' := upd _ 0 (some (.cells 8 [[.str [],.str [],cI 0,.ro true 1 [],.str [],cB false,.str [],cB false]]))) (n' := 6) rfl rfl hcs<|un1 rfl<|dnil<|Sv.ret ?_
   replace h:=Option.some.inj h
   subst h
   exact ⟨_,.refl _,_,rfl,⟨upd e0 0 (some (.tup [(.agg [.str [],.str [],cI 0,.ro false 1 (([]:TT).map eStr),.str [],cB false,.str [],cB false]),(I 3)])),e0,0⟩,(.tup [(.agg [.str [],.str [],cI 0,.ro false 1 (([]:TT).map eStr),.str [],cB false,.str [],cB false]),(I 3)]),weak_canon [] rfl ndl nll nlz (.cons rfl (avAs_tup (.cons (avAs_agg (.sm rfl (.sm rfl (.sm rfl (.cons .nil (.sm rfl (.sm rfl (.sm rfl (.sm rfl .nil))))))))) (.cons (avAs_free rfl) .nil))) .nil) .nil,rfl,rfl,rfl,rfl⟩
  ·refine Sv.skip<|ssr<|un1 rfl ?_
   obtain ⟨r_9,hr8,h⟩:=bnd h
   refine un<|ac_gen (bs:=[]) («as»:=[(.c (.ro false 1 (r_8.1.map eStr)))]) (h2:=(upd _ 5 none)) (h1:=e0) (Z8j hr8) rfl (.cons (.c (lstC_ro (es:=List.map eStr r_8.1) rfl (List.length_map eStr).symm (map_nil_of hz_2) (gone rfl) (fr_map fun _=>rfl))) .nil) (hsub_none (hsub_refl _)) (.nil _) (fun _=>rfl) (by decide) (by decide) (.cons (avAs_free rfl) .nil) .nil ?_
   rintro _ _ _ hn ⟨z_3,hz_3,rfl,rfl,rfl⟩
   refine ⟨.inr ⟨(by cases z_3 <;> rfl),(.row (cl_map fun _=>rfl) .nil)⟩,(upd (rem [] _) 6 (lstB z_3 1 (r_9.map eStr))),fun hbd=>(m3_cons (m3_row rfl (fr_map fun _=>rfl)) (m3_rem (in_nil _) (.cons (by decide) .nil) hbd)),(lstV z_3 6 1 r_9.length),7,(by cases z_3 <;> rfl),rfl,?_⟩
   refine un1 (v:=(.c (.ref 1 8 0 3))) rfl<|un<|a2n (h' := upd _ 1 (some (.cells 8 [[.str r_6.2.2.Scheme,.str r_6.2.2.Host,cI r_6.2.2.Port,lstC z_3 6 1 r_9.length,.str r_6.2.2.Query,cB r_6.2.2.Asks,.str r_6.2.2.Fragment,cB r_6.2.2.Points]]))) (n' := 7) rfl rfl hcs<|dnil<|ssr<|un1 (v:=(.agg [.str r_6.2.2.Scheme,.str r_6.2.2.Host,cI r_6.2.2.Port,lstC z_3 6 1 r_9.length,.str r_6.2.2.Query,cB r_6.2.2.Asks,.str r_6.2.2.Fragment,cB r_6.2.2.Points])) rfl<|un<|a2n (h' := upd _ 0 (some (.cells 8 [[.str r_6.2.2.Scheme,.str r_6.2.2.Host,cI r_6.2.2.Port,lstC z_3 6 1 r_9.length,.str r_6.2.2.Query,cB r_6.2.2.Asks,.str r_6.2.2.Fragment,cB r_6.2.2.Points]]))) (n' := 7) rfl rfl hcs<|un1 rfl<|dnil<|Sv.ret ?_
   replace h:=Option.some.inj h
   subst h
   exact ⟨_,.refl _,_,rfl,⟨upd e0 0 (some (.tup [(.agg [.str r_6.2.2.Scheme,.str r_6.2.2.Host,cI r_6.2.2.Port,.ro false 1 (r_9.map eStr),.str r_6.2.2.Query,cB r_6.2.2.Asks,.str r_6.2.2.Fragment,cB r_6.2.2.Points]),(I 0)])),e0,0⟩,(.tup [(.agg [.str r_6.2.2.Scheme,.str r_6.2.2.Host,cI r_6.2.2.Port,.ro false 1 (r_9.map eStr),.str r_6.2.2.Query,cB r_6.2.2.Asks,.str r_6.2.2.Fragment,cB r_6.2.2.Points]),(I 0)]),weak_canon [] rfl ndl nll nlz (.cons rfl (avAs_tup (.cons (avAs_agg (.sm rfl (.sm rfl (.sm rfl (.cons (lstC_ro (es:=List.map eStr r_9) rfl (List.length_map eStr).symm (map_nil_of hz_3) (fun b x hx=>not_in (bs:=[]) rfl b (((.nil):HLt _ _) b x hx)) (fr_map fun _=>rfl)) (.sm rfl (.sm rfl (.sm rfl (.sm rfl .nil))))))))) (.cons (avAs_free rfl) .nil))) .nil) .nil,rfl,rfl,rfl,rfl⟩
noncomputable def Z1q (s_:Tx):Option (TJUrl×Int) :=
 if decide (500<(s_.length:Int)) then
  some ((⟨[],[],0,[],[],false,[],false⟩:TJUrl),2)
 else
  (Z2x s_).bind fun r_ =>
  (Z2y r_.2.1 [47,47]).bind fun r_1 =>
  if ((!r_.2.2)||(!r_1.2)) then
   some ((⟨[],[],0,[],[],false,[],false⟩:TJUrl),3)
  else
   (Z7s r_1.1 [47,63,35]).bind fun r_2 =>
   if decide (r_2<0) then
    Z35 r_1 r_ (r_1.1.length:Int)
   else
    Z35 r_1 r_ r_2
theorem Z5i {mL:Int}{s_:Tx}{r:(TJUrl×Int)}(h:Z1q s_=some r):CPure Tryz.prog (GG mL) 39 [(S s_)] (.tup [(.agg [.str r.1.Scheme,.str r.1.Host,cI r.1.Port,.ro false 1 (r.1.Path.map eStr),.str r.1.Query,cB r.1.Asks,.str r.1.Fragment,cB r.1.Points]),(I r.2)]):=by
 refine acalls_of_sv hmix c39 (R:=Z8k r) ?_
 unfold Z1q at h
 refine ssr<|un<|a2v (v:=(.c (.ref 0 8 0 0))) (h' := upd _ 0 (some (.cells 8 [[.str [],.str [],cI 0,.ro true 1 [],.str [],cB false,.str [],cB false]]))) (n' := 1) rfl rfl hcs<|un1 rfl<|dnil<|Sv.seq<|ssr<|un1 rfl<|un1 (v:=(I (s_.length:Int))) rfl<|un1 (v:=(B (decide (500<(s_.length:Int))))) rfl<|dnil ?_
 refine Sv.cnd rfl h (fun h=>?_) fun h=>?_
 ·refine ssr<|un1 (v:=(.agg [.str [],.str [],cI 0,.ro true 1 [],.str [],cB false,.str [],cB false])) rfl<|un<|a2n (h' := upd _ 0 (some (.cells 8 [[.str [],.str [],cI 0,.ro true 1 [],.str [],cB false,.str [],cB false]]))) (n' := 1) rfl rfl hcs<|un1 rfl<|dnil<|Sv.ret ?_
  replace h:=Option.some.inj h
  subst h
  exact ⟨_,.refl _,_,rfl,⟨upd e0 0 (some (.tup [(.agg [.str [],.str [],cI 0,.ro false 1 (([]:TT).map eStr),.str [],cB false,.str [],cB false]),(I 2)])),e0,0⟩,(.tup [(.agg [.str [],.str [],cI 0,.ro false 1 (([]:TT).map eStr),.str [],cB false,.str [],cB false]),(I 2)]),weak_canon [] rfl ndl nll nlz (.cons rfl (avAs_tup (.cons (avAs_agg (.sm rfl (.sm rfl (.sm rfl (.cons .nil (.sm rfl (.sm rfl (.sm rfl (.sm rfl .nil))))))))) (.cons (avAs_free rfl) .nil))) .nil) .nil,rfl,rfl,rfl,rfl⟩
 ·refine Sv.skip<|ssr<|un<|a2v (v:=(.c (.ref 1 8 0 0))) (h' := upd _ 1 (some (.cells 8 [[.str [],.str [],cI 0,.ro true 1 [],.str [],cB false,.str [],cB false]]))) (n' := 2) rfl rfl hcs<|dnil<|ssr<|un1 rfl ?_
  obtain ⟨r_,hr1,h⟩:=bnd h
  refine un<|ac_pure (Z7o hr1) rfl rfl rfl<|un1 rfl<|un1 (v:=(S r_.1)) rfl<|un1 (v:=(S r_.2.1)) rfl<|un1 (v:=(B r_.2.2)) rfl<|un1 rfl<|un1 rfl<|un1 rfl<|dnil<|ssr<|un1 rfl ?_
  obtain ⟨r_1,hr2,h⟩:=bnd h
  refine un<|ac_pure (Z7r hr2) rfl rfl rfl<|un1 rfl<|un1 (v:=(S r_1.1)) rfl<|un1 (v:=(B r_1.2)) rfl<|un1 rfl<|un1 rfl<|dnil<|Sv.seq<|ssr<|un1 rfl<|un1 (v:=(B (!r_.2.2))) rfl<|un1 rfl ?_
  refine gjoin 3 (d:=34) (v:=(B ((!r_.2.2)||(!r_1.2)))) (fun X hX=>?_) ?_
  ·refine split2 (fun hc2=>?_) (fun hc2=>?_)
   ·refine gs rfl rfl<|gs rfl rfl<|un1 (v:=(B true)) rfl<|dnil ?_
    exact hX _ (.putEq (by rw [hc2]; rfl) (.skp (.skp (.putEq (by rw [hc2]) (.refl _)) rfl) rfl))
   ·refine gt rfl<|a1 rfl<|gt rfl<|a1 (v:=(B (!r_1.2))) rfl<|un1 (v:=(B (!r_1.2))) rfl<|dnil ?_
    exact hX _ (.putEq (by rw [hc2]; rfl) (.skp (.skp (.putEq (by rw [hc2]) (.refl _)) rfl) rfl))
  refine dnil ?_
  refine Sv.cnd rfl h (fun h=>?_) fun h=>?_
  ·refine ssr<|un1 (v:=(.agg [.str [],.str [],cI 0,.ro true 1 [],.str [],cB false,.str [],cB false])) rfl<|un<|a2n (h' := upd _ 0 (some (.cells 8 [[.str [],.str [],cI 0,.ro true 1 [],.str [],cB false,.str [],cB false]]))) (n' := 2) rfl rfl hcs<|un1 rfl<|dnil<|Sv.ret ?_
   replace h:=Option.some.inj h
   subst h
   exact ⟨_,.refl _,_,rfl,⟨upd e0 0 (some (.tup [(.agg [.str [],.str [],cI 0,.ro false 1 (([]:TT).map eStr),.str [],cB false,.str [],cB false]),(I 3)])),e0,0⟩,(.tup [(.agg [.str [],.str [],cI 0,.ro false 1 (([]:TT).map eStr),.str [],cB false,.str [],cB false]),(I 3)]),weak_canon [] rfl ndl nll nlz (.cons rfl (avAs_tup (.cons (avAs_agg (.sm rfl (.sm rfl (.sm rfl (.cons .nil (.sm rfl (.sm rfl (.sm rfl (.sm rfl .nil))))))))) (.cons (avAs_free rfl) .nil))) .nil) .nil,rfl,rfl,rfl,rfl⟩
  ·refine Sv.skip<|ssr<|un1 rfl<|un1 (v:=(.c (.ref 1 8 0 0))) rfl<|un<|a2n (h' := upd _ 1 (some (.cells 8 [[.str r_.1,.str [],cI 0,.ro true 1 [],.str [],cB false,.str [],cB false]]))) (n' := 2) rfl rfl hcs<|dnil<|ssr<|un1 rfl ?_
   obtain ⟨r_2,hr3,h⟩:=bnd h
   refine un<|ac_pure (Zc1 hr3) rfl rfl rfl<|un1 rfl<|dnil<|Sv.seq<|ssr<|un1 rfl<|un1 (v:=(B (decide (r_2<0)))) rfl<|dnil ?_
   refine Sv.cnd rfl h (fun h=>?_) fun h=>?_
   ·refine srg<|un1 rfl<|un1 (v:=(I (r_1.1.length:Int))) rfl<|un1 rfl<|dnil ?_
    exact Sv.weak (wcn [0,1] rfl (.cf rfl rfl (.cf rfl rfl (.cr rfl rfl rfl (.cr rfl rfl rfl .nil)))) (.box (by decide) rfl (blkAs_cells (.sm rfl (.sm rfl (.sm rfl (.sm rfl (.sm rfl (.sm rfl (.sm rfl (.sm rfl .nil))))))))) (.box (by decide) rfl (blkAs_cells (.sm rfl (.sm rfl (.sm rfl (.sm rfl (.sm rfl (.sm rfl (.sm rfl (.sm rfl .nil))))))))) .nil))) (Z8l h)
   ·refine Sv.skip ?_
    exact Sv.weak (wcn [0,1] rfl (.cf rfl rfl (.cf rfl rfl (.cr rfl rfl rfl (.cr rfl rfl rfl .nil)))) (.box (by decide) rfl (blkAs_cells (.sm rfl (.sm rfl (.sm rfl (.sm rfl (.sm rfl (.sm rfl (.sm rfl (.sm rfl .nil))))))))) (.box (by decide) rfl (blkAs_cells (.sm rfl (.sm rfl (.sm rfl (.sm rfl (.sm rfl (.sm rfl (.sm rfl (.sm rfl .nil))))))))) .nil))) (Z8l h)
def a25:AFunc:=⟨2,[(.tmp 4)],(sr [(oP 4 (.mov kF))]
 (sr [(mV 5 0),(mV 6 1),(oP 7 (.call 49 [(.tmp 5),(.tmp 6)])),(mV 4 7)]
 .ret))⟩
theorem c25:compFunc Tryz.prog 25=some a25:=by kernel_rfl
def Zct (r:Bool):AV→Heap→Nat→Prop:=fun v h' n' => v=(B r)∧(h' = e0)∧n' = 0
noncomputable def Zj (s_:Tx) (prefix_:Tx):Option Bool :=
 (Z29 s_ prefix_).bind fun r_ =>
 some r_
theorem Z5j {mL:Int}{s_:Tx}{prefix_:Tx}{r:Bool}(h:Zj s_ prefix_=some r):CPure Tryz.prog (GG mL) 25 [(S s_),(S prefix_)] (B r):=by
 refine acalls_of_sv hmix c25 (R:=Zct r) ?_
 unfold Zj at h
 refine ssr<|un1 rfl<|dnil<|ssr<|un1 rfl<|un1 rfl ?_
 obtain ⟨r_,hr1,h⟩:=bnd h
 refine un<|ac_pure (Z69 hr1) rfl rfl rfl<|un1 rfl<|dnil<|Sv.ret ?_
 exact rt0 h rfl rfl ⟨rfl,rfl,rfl⟩
noncomputable abbrev Z8m (n_:Int):Option TT:=grow? Tx 16 n_
theorem Zcu {mL:Int}{n_:Int}{r:TT}(h:Z8m n_=some r):ACalls Tryz.prog (GG mL) 92 [.c (.ro true 1 []),I n_] e0 0 (fun v h' n' => ∃ z:Bool,(z=true→r=[])∧v=lstV z 0 1 r.length∧(h' = (upd e0 0 (lstB z 1 (r.map eStr))))∧n' = 1):=grow_ok Tryz.grow92 rfl rfl rfl rfl (by decide) rfl h
def a66_c0:ACode:=(sr [(oP 12 (.bin .lss (.tmp 11) (.tmp 10)))]
 (.seq (.cond (.tmp 12) .skip (.exit 0))
 (.seq (.block 1 (sr [(oP 13 (.iaddr 1 (.tmp 9) (.tmp 11))),(oP 14 (.load false 1 (.tmp 13))),(mV 5 14)]
 (sr [(mV 15 3),(mV 16 5),(oP 17 (.len (.tmp 16))),(oP 18 (.bin .add (.tmp 15) (.tmp 17))),(mV 3 18)]
 (sr [(mV 19 3),(oP 20 (.bin .lss (.tmp 19) (kI 0)))]
 (.cond (.tmp 20) (.region [⟨(some 21),.mkif,none⟩,⟨none,.bad,none⟩]) .skip)))))
 (.region [(oP 22 (.bin .add (.tmp 11) (kI 1))),(mV 11 22)]))))
def a66_c1:ACode:=(sr [(oP 28 (.bin .lss (.tmp 27) (.tmp 26)))]
 (.seq (.cond (.tmp 28) .skip (.exit 2))
 (.seq (.block 3 (sr [(oP 29 (.iaddr 1 (.tmp 25) (.tmp 27))),(oP 30 (.load false 1 (.tmp 29))),(mV 8 30)]
 (.region [(mV 31 6),(mV 32 8),(oP 33 (.app 1 16 (.tmp 31) (.tmp 32))),(mV 6 33)])))
 (.region [(oP 34 (.bin .add (.tmp 27) (kI 1))),(mV 27 34)]))))
def a66:AFunc:=⟨1,[(.tmp 2)],(sr [(oP 2 (.mov (.const (.c (.ro true 1 [])))))]
 (sr [(oP 3 (.mov (kI 0)))]
 (.seq (sr [(mV 9 0),(oP 10 (.len (.tmp 9))),(oP 11 (.mov (kI 0)))]
 (.block 0 (.loop a66_c0)))
 (sr [(mV 23 3),(oP 24 (.call 92 [(.const (.c (.ro true 1 []))),(.tmp 23)])),(mV 6 24)]
 (.seq (sr [(mV 25 0),(oP 26 (.len (.tmp 25))),(oP 27 (.mov (kI 0)))]
 (.block 2 (.loop a66_c1)))
 (sr [(mV 35 6),(mV 2 35)]
 .ret))))))⟩
theorem c66:compFunc Tryz.prog 66=some a66:=by kernel_rfl
def Z5k (r:TT):AV→Heap→Nat→Prop:=fun v h' n' => ∃ z0:Bool,(z0=true→r=[])∧v=(lstV z0 0 1 r.length)∧(h' = (upd e0 0 (lstB z0 1 (r.map eStr))))∧n' = 1
abbrev Zcv (slices:(List TT)) (F_:Int→Option TT) (o:TT) (R_:St→Prop):Prop:=∀(size1:Int),F_ size1=some o→∀ s,Weak 0 s ⟨(ue [(3,(I size1)),(0,(.c (.ro false 1 (slices.map (eSl 1 eStr)))))]),e0,0⟩→R_ s
abbrev Z8n (slices:(List TT)) (F_:Nat→Int→Int→Option TT) (o:TT):Nat→St→Prop:=fun k s=>∃(size:Int),∃(v11:Int),F_ k size v11=some o∧s=⟨(ue [(11,(I v11)),(10,(I (slices.length:Int))),(9,(.c (.ro false 1 (slices.map (eSl 1 eStr))))),(3,(I size)),(0,(.c (.ro false 1 (slices.map (eSl 1 eStr)))))]),e0,0⟩
abbrev Zcw (slices:(List TT)) (F_:Int→Int→Option TT) (o:TT) (R_:St→Prop):Prop:=∀(size:Int) (v11:Int),F_ size v11=some o→∀ s,Weak 0 s ⟨(ue [(11,(I v11)),(10,(I (slices.length:Int))),(9,(.c (.ro false 1 (slices.map (eSl 1 eStr))))),(3,(I size)),(0,(.c (.ro false 1 (slices.map (eSl 1 eStr)))))]),e0,0⟩→R_ s
noncomputable def Zx (slices:(List TT)) (K0_:Int→Option TT):Nat→Int→Int→Option TT
 | 0,_,_=>none
 | k+1,size,v11 =>
  if decide (v11<(slices.length:Int)) then
   (at? slices v11).bind fun x_ =>
   if decide ((wi (size+(x_.length:Int)))<0) then
    none
   else
    (Zx slices K0_ k) (wi (size+(x_.length:Int))) (wi (v11+1))
  else
   K0_ size
theorem Zcx {mL:Int}{Q:AExit→St→Prop}{slices:(List TT)}{K0_:Int→Option TT}{k:Nat}{size:Int}{v11:Int}{o:TT}(h:Zx slices K0_ k size v11=some o)
  (hK0:Zcv slices K0_ o (Q (.exit 0)))
  (hr:∀ s,Ends a66.results 0 (Z5k o) .ret s→Q .ret s) :
  Sv Tryz.prog (GG mL) 0 (.loop a66_c0) Q ⟨(ue [(11,(I v11)),(10,(I (slices.length:Int))),(9,(.c (.ro false 1 (slices.map (eSl 1 eStr))))),(3,(I size)),(0,(.c (.ro false 1 (slices.map (eSl 1 eStr)))))]),e0,0⟩:=by
 refine Sv.loop (I:=Z8n slices (Zx slices K0_) o) (fun k s hI=>?_) ⟨size,v11,h,rfl⟩
 clear h
 clear v11 size
 obtain ⟨size,v11,h,rfl⟩:=hI
 cases k with
 | zero=>cases h
 | succ k =>
 rw [Zx] at h
 have hself:Zcw slices (Zx slices K0_ k) o (rnd 0 (Z8n slices (Zx slices K0_) o) k Q):=fun size v11 h s hw=>⟨_,k,hw,Nat.lt_succ_self k,size,v11,h,rfl⟩
 refine ssr<|un1 (v:=(B (decide (v11<(slices.length:Int))))) rfl<|dnil<|Sv.seq ?_
 refine Sv.cnd rfl h (fun h=>?_) fun h=>?_
 ·refine Sv.skip<|Sv.seq<|Sv.block<|ssr ?_
  obtain ⟨x_,hx1,h⟩:=bnd h
  refine un1 (v:=(.c (.rop [.ro false 1 (x_.map eStr)]))) (s_iaddr (e:=(eSl 1 eStr)) (xs:=slices) rfl rfl hx1)<|un1 (v:=(.c (.ro false 1 (x_.map eStr)))) rfl<|un1 rfl<|dnil<|ssr<|un1 rfl<|un1 rfl<|un1 (v:=(I (x_.length:Int))) (s_len (e:=eStr) (xs:=x_) rfl)<|un1 (v:=(I (wi (size+(x_.length:Int))))) rfl<|un1 rfl<|dnil<|ssr<|un1 rfl<|un1 (v:=(B (decide ((wi (size+(x_.length:Int)))<0)))) rfl<|dnil ?_
  refine Sv.cnd rfl h (fun h=>?_) fun h=>?_
  ·refine srg<|un1 (v:=(.c (.opq))) rfl ?_
   cases h
  ·refine Sv.skip<|srg<|un1 (v:=(I (wi (v11+1)))) rfl<|un1 rfl<|dnil ?_
   exact hself (wi (size+(x_.length:Int))) (wi (v11+1)) h _ (wcn [] rfl (.cf rfl rfl (.cf rfl rfl (.cf rfl rfl (.cf rfl rfl (.cf rfl rfl .nil))))) .nil)
 ·refine Sv.exit ?_
  exact hK0 size h _ (wcn [] rfl (.cf rfl rfl (.cf rfl rfl .nil)) .nil)
abbrev Zcy (F_:TT→Option TT) (o:TT) (R_:St→Prop):Prop:=∀(newslice1:TT) (znewslice1:Bool) (_:znewslice1=true→newslice1=[]),F_ newslice1=some o→∀ s,Weak 0 s ⟨(upd e0 6 (some (lstV znewslice1 0 1 newslice1.length))),(upd e0 0 (lstB znewslice1 1 (newslice1.map eStr))),1⟩→R_ s
abbrev Z8o (slices:(List TT)) (F_:Nat→TT→Int→Option TT) (o:TT):Nat→St→Prop:=fun k s=>∃(newslice:TT),∃(v27:Int),∃(znewslice:Bool),(znewslice=true→newslice=[])∧F_ k newslice v27=some o∧s=⟨(ue [(27,(I v27)),(26,(I (slices.length:Int))),(25,(.c (.ro false 1 (slices.map (eSl 1 eStr))))),(6,(lstV znewslice 0 1 newslice.length))]),(upd e0 0 (lstB znewslice 1 (newslice.map eStr))),1⟩
abbrev Zcz (slices:(List TT)) (F_:TT→Int→Option TT) (o:TT) (R_:St→Prop):Prop:=∀(newslice:TT) (v27:Int) (znewslice:Bool) (_:znewslice=true→newslice=[]),F_ newslice v27=some o→∀ s,Weak 0 s ⟨(ue [(27,(I v27)),(26,(I (slices.length:Int))),(25,(.c (.ro false 1 (slices.map (eSl 1 eStr))))),(6,(lstV znewslice 0 1 newslice.length))]),(upd e0 0 (lstB znewslice 1 (newslice.map eStr))),1⟩→R_ s
noncomputable def Zy (slices:(List TT)) (K2_:TT→Option TT):Nat→TT→Int→Option TT
 | 0,_,_=>none
 | k+1,newslice,v27 =>
  if decide (v27<(slices.length:Int)) then
   (at? slices v27).bind fun x_1 =>
   (app? 16 newslice x_1).bind fun r_1 =>
   (Zy slices K2_ k) r_1 (wi (v27+1))
  else
   K2_ newslice
theorem Zd0 {mL:Int}{Q:AExit→St→Prop}{slices:(List TT)}{K2_:TT→Option TT}{k:Nat}{newslice:TT}{v27:Int}{znewslice:Bool}(hznewslice:znewslice=true→newslice=[]) {o:TT}(h:Zy slices K2_ k newslice v27=some o)
  (hK2:Zcy K2_ o (Q (.exit 2)))
  (hr:∀ s,Ends a66.results 0 (Z5k o) .ret s→Q .ret s) :
  Sv Tryz.prog (GG mL) 0 (.loop a66_c1) Q ⟨(ue [(27,(I v27)),(26,(I (slices.length:Int))),(25,(.c (.ro false 1 (slices.map (eSl 1 eStr))))),(6,(lstV znewslice 0 1 newslice.length))]),(upd e0 0 (lstB znewslice 1 (newslice.map eStr))),1⟩:=by
 refine Sv.loop (I:=Z8o slices (Zy slices K2_) o) (fun k s hI=>?_) ⟨newslice,v27,znewslice,hznewslice,h,rfl⟩
 clear h
 clear hznewslice znewslice v27 newslice
 obtain ⟨newslice,v27,znewslice,hznewslice,h,rfl⟩:=hI
 cases k with
 | zero=>cases h
 | succ k =>
 rw [Zy] at h
 have hself:Zcz slices (Zy slices K2_ k) o (rnd 0 (Z8o slices (Zy slices K2_) o) k Q):=fun newslice v27 znewslice hznewslice h s hw=>⟨_,k,hw,Nat.lt_succ_self k,newslice,v27,znewslice,hznewslice,h,rfl⟩
 refine ssr<|un1 (v:=(B (decide (v27<(slices.length:Int))))) rfl<|dnil<|Sv.seq ?_
 refine Sv.cnd rfl h (fun h=>?_) fun h=>?_
 ·refine Sv.skip<|Sv.seq<|Sv.block<|ssr ?_
  obtain ⟨x_1,hx2,h⟩:=bnd h
  refine un1 (v:=(.c (.rop [.ro false 1 (x_1.map eStr)]))) (s_iaddr (e:=(eSl 1 eStr)) (xs:=slices) rfl rfl hx2)<|un1 (v:=(.c (.ro false 1 (x_1.map eStr)))) rfl<|un1 rfl<|dnil<|srg<|un1 rfl<|un1 rfl ?_
  obtain ⟨r_1,hr2,h⟩:=bnd h
  have hz1:(znewslice&&x_1.isEmpty)=true→r_1=[]:=app_nil (z:=znewslice) (ys:=x_1) hznewslice hr2
  refine un<|a2v rfl (s_app (xs:=newslice) (ys:=x_1) (e:=eStr) (z:=znewslice) (b:=0) rfl rfl hznewslice rfl rfl (slc_ro) hr2) hcs<|un1 rfl<|dnil<|srg<|un1 (v:=(I (wi (v27+1)))) rfl<|un1 rfl<|dnil ?_
  exact hself r_1 (wi (v27+1)) (znewslice&&x_1.isEmpty) hz1 h _ (wcn [1] rfl (.cf rfl rfl (.cf rfl rfl (.cf rfl rfl (.cons rfl (.c (lsr rfl rfl)) .nil)))) (.row (by decide) rfl (fr_map fun _=>rfl) .nil))
 ·refine Sv.exit ?_
  exact hK2 newslice znewslice hznewslice h _ (wcn [0] rfl (.cons rfl (.c (lsr rfl rfl)) .nil) (.row (by decide) rfl (fr_map fun _=>rfl) .nil))
noncomputable def Z44 (slices:(List TT)):Option TT :=
 lim fun kk1=>Zx slices (fun (size1:Int) => 
   (Z8m size1).bind fun r_ =>
   lim fun kk=>Zy slices (fun (newslice1:TT) => 
     some newslice1) kk r_ 0) kk1 0 0
theorem Zd1 {mL:Int}{slices:(List TT)}{r:TT}(h:Z44 slices=some r):ACalls Tryz.prog (GG mL) 66 [(.c (.ro false 1 (slices.map (eSl 1 eStr))))] e0 0 (Z5k r):=by
 refine acalls_of_sv hmix c66 (R:=Z5k r) ?_
 unfold Z44 at h
 refine ssr<|un1 rfl<|dnil<|ssr<|un1 rfl<|dnil<|Sv.seq<|ssr<|un1 rfl<|un1 (v:=(I (slices.length:Int))) (s_len (e:=(eSl 1 eStr)) (xs:=slices) rfl)<|un1 rfl<|dnil<|Sv.block ?_
 obtain ⟨kk1,h⟩:=lim_some h
 refine Sv.weak (wcn [] rfl (.cf rfl rfl (.cf rfl rfl (.cf rfl rfl (.cf rfl rfl (.cf rfl rfl .nil))))) .nil) (Zcx h ?_ (fun s hs=>hs))
 ·intro size1 h _ hw1
  refine Sv.weak hw1<|ssr<|un1 rfl ?_
  obtain ⟨r_,hr1,h⟩:=bnd h
  refine un<|ac_gen (bs:=[]) («as»:=[(.c (.ro true 1 [])),(I size1)]) (h2:=_) (h1:=e0) (Zcu hr1) rfl (.cons (avAs_free rfl) (.cons (avAs_free rfl) .nil)) (hsub_refl _) (.nil _) (fun _=>rfl) (by decide) (by decide) (.cons (avAs_free rfl) (.cons (avAs_free rfl) .nil)) .nil ?_
  rintro _ _ _ hn ⟨z_,hz_,rfl,rfl,rfl⟩
  refine ⟨.inl rfl,(upd (rem [] _) 0 (lstB z_ 1 (r_.map eStr))),fun hbd=>(m3_cons (m3_row rfl (fr_map fun _=>rfl)) (m3_rem (in_nil _) (.cons (by decide) .nil) hbd)),(lstV z_ 0 1 r_.length),1,(by cases z_ <;> rfl),rfl,?_⟩
  refine un1 rfl<|dnil<|Sv.seq<|ssr<|un1 rfl<|un1 (v:=(I (slices.length:Int))) (s_len (e:=(eSl 1 eStr)) (xs:=slices) rfl)<|un1 rfl<|dnil<|Sv.block ?_
  obtain ⟨kk,h⟩:=lim_some h
  refine Sv.weak (wcn [0] rfl (.cf rfl rfl (.cf rfl rfl (.cf rfl rfl (.cons rfl (.c (lsr rfl rfl)) .nil)))) (.row (by decide) rfl (fr_map fun _=>rfl) .nil)) (Zd0 hz_ h ?_ (fun s hs=>hs))
  ·intro newslice1 znewslice1 hznewslice1 h _ hw2
   refine Sv.weak hw2<|ssr<|un1 rfl<|un1 rfl<|dnil<|Sv.ret ?_
   replace h:=Option.some.inj h
   subst h
   exact ⟨_,.refl _,_,rfl,⟨upd e0 0 (some (lstV znewslice1 0 1 newslice1.length)),(upd e0 0 (lstB znewslice1 1 (newslice1.map eStr))),1⟩,(lstV znewslice1 0 1 newslice1.length),weak_canon2 [0] [0] (by decide) (by decide) nlz (.cons (by decide) .nil) (.cons rfl (.c (lsr rfl rfl)) .nil) (.row (by decide) rfl (fr_map fun _=>rfl) .nil),rfl,znewslice1,hznewslice1,rfl,rfl,rfl⟩
def a41_c0:ACode:=(sr [(oP 58 (.load true 8 (.tmp 6))),(oN (.store 8 (.tmp 4) (.tmp 58))),(oP 5 (.mov (kI 0)))]
 .ret)
def a41_c1:ACode:=(sr [(mV 72 11),(oP 73 (.call 62 [(.tmp 72)])),(oP 74 (.faddr 3 (.tmp 6))),(oN (.store 1 (.tmp 74) (.tmp 73)))]
 (sr [(oP 75 (.load true 8 (.tmp 6))),(oN (.store 8 (.tmp 4) (.tmp 75))),(oP 5 (.mov (kI 0)))]
 .ret))
def a41:AFunc:=⟨2,[(.cell true 8 4),(.tmp 5)],(sr [(oP 2 (.box (.tmp 0))),(oP 4 (.box (.const (.agg [(.str []),(.str []),(.val (.int .i64 0)),(.ro true 1 []),(.str []),(.val (.bool false)),(.str []),(.val (.bool false))])))),(oP 5 (.mov (kI 0)))]
 (sr [(oP 13 (.faddr 0 (.tmp 2))),(oP 14 (.load false 1 (.tmp 13))),(oP 15 (.faddr 1 (.tmp 2))),(oP 16 (.load false 1 (.tmp 15))),(oP 17 (.faddr 2 (.tmp 2))),(oP 18 (.load false 1 (.tmp 17))),(oP 19 (.build [(.str []),(.str []),(.val (.int .i64 0)),(.ro true 1 []),(.str []),(.val (.bool false)),(.str []),(.val (.bool false))] [(0,(1,(.tmp 14))),(1,(1,(.tmp 16))),(2,(1,(.tmp 18)))])),(oP 6 (.box (.const (.agg [(.str []),(.str []),(.val (.int .i64 0)),(.ro true 1 []),(.str []),(.val (.bool false)),(.str []),(.val (.bool false))])))),(oN (.store 8 (.tmp 6) (.tmp 19)))]
 (sr [(mV 21 1),(oP 22 (.call 60 [(.tmp 6),(.tmp 21)])),(mV 20 22),(oP 23 (.ext (.tmp 20) 0)),(oP 24 (.ext (.tmp 20) 1)),(mV 7 23),(mV 8 24)]
 (sr [(mV 26 7),(oP 27 (.call 57 [(.tmp 26),(.const (.c (.str [47])))])),(mV 25 27),(oP 28 (.ext (.tmp 25) 0)),(oP 29 (.ext (.tmp 25) 1)),(mV 9 28),(mV 10 29)]
 (sr [(mV 31 9),(oP 32 (.call 61 [(.tmp 31)])),(mV 30 32),(oP 33 (.ext (.tmp 30) 0)),(oP 34 (.ext (.tmp 30) 1)),(mV 11 33),(mV 12 34)]
 (.seq (.block 0 (sr [(mV 36 8),(oP 37 (.un .not (.tmp 36))),(mV 38 37),⟨(some 39),(.mov (.tmp 12)),(some (38,false))⟩,⟨(some 40),(.un .not (.tmp 39)),(some (38,false))⟩,(oP 41 (.pick (.tmp 38) kT (.tmp 40))),(mV 35 41)]
 (.cond (.tmp 35) (sr [(oP 42 (.build [(.str []),(.str []),(.val (.int .i64 0)),(.ro true 1 []),(.str []),(.val (.bool false)),(.str []),(.val (.bool false))] [])),(oN (.store 8 (.tmp 4) (.tmp 42))),(oP 5 (.mov (kI 3)))]
 .ret) (sr [(mV 44 7),(oP 45 (.bin .eql (.tmp 44) (.const (.c (.str []))))),(mV 43 45)]
 (.cond (.tmp 43) (sr [(oP 46 (.faddr 3 (.tmp 2))),(oP 47 (.load false 1 (.tmp 46))),(oP 48 (.faddr 3 (.tmp 6))),(oN (.store 1 (.tmp 48) (.tmp 47)))]
 (.seq (sr [(oP 49 (.faddr 5 (.tmp 6))),(oP 50 (.load false 1 (.tmp 49))),(oP 51 (.un .not (.tmp 50)))]
 (.cond (.tmp 51) (.drawn (.alt [((oP 52 (.faddr 4 (.tmp 2))),(0,0)),((oP 53 (.load false 1 (.tmp 52))),(0,1)),((oP 54 (.faddr 5 (.tmp 2))),(0,2)),((oP 56 (.faddr 4 (.tmp 6))),(0,4))] (.fin [((oP 55 (.load false 1 (.tmp 54))),(1,3)),((oN (.store 1 (.tmp 56) (.tmp 53))),(2,5)),((oP 57 (.faddr 5 (.tmp 6))),(0,6)),((oN (.store 1 (.tmp 57) (.tmp 55))),(2,7))]) (.fin [((oN (.store 1 (.tmp 56) (.tmp 53))),(2,5)),((oP 55 (.load false 1 (.tmp 54))),(1,3)),((oP 57 (.faddr 5 (.tmp 6))),(0,6)),((oN (.store 1 (.tmp 57) (.tmp 55))),(2,7))]))) .skip))
 a41_c0)) (sr [(mV 60 10),(oP 61 (.un .not (.tmp 60))),(mV 59 61)]
 (.cond (.tmp 59) (.region [(oP 62 (.faddr 3 (.tmp 2))),(oP 63 (.load false 1 (.tmp 62))),(oP 64 (.faddr 3 (.tmp 2))),(oP 65 (.load false 1 (.tmp 64))),(oP 66 (.len (.tmp 65))),(oP 67 (.bin .sub (.tmp 66) (kI 1))),(oP 68 (.slSl 1 (.tmp 63) none (some (.tmp 67)) none)),(mV 69 11),(oP 70 (.bslice 1 [(.ro true 1 [])] 2 [(0,(.tmp 68)),(1,(.tmp 69))])),(oP 71 (.call 66 [(.tmp 70)])),(mV 11 71)]) .skip)))))))
 a41_c1))))))⟩
theorem c41:compFunc Tryz.prog 41=some a41:=by kernel_rfl
def Z5l (r:(TJUrl×Int)):AV→Heap→Nat→Prop:=fun v h' n' => v=(.tup [(.agg [.str r.1.Scheme,.str r.1.Host,cI r.1.Port,.ro false 1 (r.1.Path.map eStr),.str r.1.Query,cB r.1.Asks,.str r.1.Fragment,cB r.1.Points]),(I r.2)])∧(h' = e0)∧n' = 0
noncomputable def Z45 (r_:(Tx×Bool×TJUrl)) (u3:TT) (l_:TT):Option (TJUrl×Int) :=
 (Z2g l_).bind fun r_3 =>
 some ((⟨r_.2.2.Scheme,r_.2.2.Host,r_.2.2.Port,r_3,r_.2.2.Query,r_.2.2.Asks,r_.2.2.Fragment,r_.2.2.Points⟩:TJUrl),0)
theorem Z8p {mL:Int}{r_:(Tx×Bool×TJUrl)}{u3:TT}{l_:TT}{zu3:Bool}(hzu3:zu3=true→u3=[]) {zl:Bool}(hzl:zl=true→l_=[]) {o:(TJUrl×Int)}(h:Z45 r_ u3 l_=some o) :
  Sv Tryz.prog (GG mL) 0 a41_c1 (Ends a41.results 0 (Z5l o)) ⟨(ue [(11,(lstV zl 3 1 l_.length)),(6,(.c (.ref 1 8 0 0))),(4,(.c (.ref 0 8 0 0)))]),(upd (upd (upd (upd e0 0 (some (.cells 8 [[.str [],.str [],cI 0,.ro true 1 [],.str [],cB false,.str [],cB false]]))) 1 (some (.cells 8 [[.str r_.2.2.Scheme,.str r_.2.2.Host,cI r_.2.2.Port,lstC zu3 2 1 u3.length,.str r_.2.2.Query,cB r_.2.2.Asks,.str r_.2.2.Fragment,cB r_.2.2.Points]]))) 2 (lstB zu3 1 (u3.map eStr))) 3 (lstB zl 1 (l_.map eStr))),4⟩:=by
 unfold Z45 at h
 refine ssr<|un1 rfl ?_
 obtain ⟨r_3,hr4,h⟩:=bnd h
 refine un<|ac_gen (bs:=[]) («as»:=[(.c (.ro false 1 (l_.map eStr)))]) (h2:=(upd _ 3 none)) (h1:=e0) (Z8j hr4) rfl (.cons (.c (lstC_ro (es:=List.map eStr l_) rfl (List.length_map eStr).symm (map_nil_of hzl) (gone rfl) (fr_map fun _=>rfl))) .nil) (hsub_none (hsub_refl _)) (.nil _) (fun _=>rfl) (by decide) (by decide) (.cons (avAs_free rfl) .nil) .nil ?_
 rintro _ _ _ hn ⟨z_2,hz_2,rfl,rfl,rfl⟩
 refine ⟨.inr ⟨(by cases z_2 <;> rfl),(.row (cl_map fun _=>rfl) .nil)⟩,(upd (rem [] _) 4 (lstB z_2 1 (r_3.map eStr))),fun hbd=>(m3_cons (m3_row rfl (fr_map fun _=>rfl)) (m3_rem (in_nil _) (.cons (by decide) .nil) hbd)),(lstV z_2 4 1 r_3.length),5,(by cases z_2 <;> rfl),rfl,?_⟩
 refine un1 (v:=(.c (.ref 1 8 0 3))) rfl<|un<|a2n (h' := upd _ 1 (some (.cells 8 [[.str r_.2.2.Scheme,.str r_.2.2.Host,cI r_.2.2.Port,lstC z_2 4 1 r_3.length,.str r_.2.2.Query,cB r_.2.2.Asks,.str r_.2.2.Fragment,cB r_.2.2.Points]]))) (n' := 5) rfl rfl hcs<|dnil<|ssr<|un1 (v:=(.agg [.str r_.2.2.Scheme,.str r_.2.2.Host,cI r_.2.2.Port,lstC z_2 4 1 r_3.length,.str r_.2.2.Query,cB r_.2.2.Asks,.str r_.2.2.Fragment,cB r_.2.2.Points])) rfl<|un<|a2n (h' := upd _ 0 (some (.cells 8 [[.str r_.2.2.Scheme,.str r_.2.2.Host,cI r_.2.2.Port,lstC z_2 4 1 r_3.length,.str r_.2.2.Query,cB r_.2.2.Asks,.str r_.2.2.Fragment,cB r_.2.2.Points]]))) (n' := 5) rfl rfl hcs<|un1 rfl<|dnil<|Sv.ret ?_
 replace h:=Option.some.inj h
 subst h
 exact ⟨_,.refl _,_,rfl,⟨upd e0 0 (some (.tup [(.agg [.str r_.2.2.Scheme,.str r_.2.2.Host,cI r_.2.2.Port,.ro false 1 (r_3.map eStr),.str r_.2.2.Query,cB r_.2.2.Asks,.str r_.2.2.Fragment,cB r_.2.2.Points]),(I 0)])),e0,0⟩,(.tup [(.agg [.str r_.2.2.Scheme,.str r_.2.2.Host,cI r_.2.2.Port,.ro false 1 (r_3.map eStr),.str r_.2.2.Query,cB r_.2.2.Asks,.str r_.2.2.Fragment,cB r_.2.2.Points]),(I 0)]),weak_canon [] rfl ndl nll nlz (.cons rfl (avAs_tup (.cons (avAs_agg (.sm rfl (.sm rfl (.sm rfl (.cons (lstC_ro (es:=List.map eStr r_3) rfl (List.length_map eStr).symm (map_nil_of hz_2) (fun b x hx=>not_in (bs:=[]) rfl b (((.nil):HLt _ _) b x hx)) (fr_map fun _=>rfl)) (.sm rfl (.sm rfl (.sm rfl (.sm rfl .nil))))))))) (.cons (avAs_free rfl) .nil))) .nil) .nil,rfl,rfl,rfl,rfl⟩
abbrev Zd2 (mL:Int) (o:(TJUrl×Int)):AExit→St→Prop:=AThen (Sv Tryz.prog (GG mL) 0 a41_c1 (Ends a41.results 0 (Z5l o))) (Ends a41.results 0 (Z5l o))
abbrev Zd3 (mL:Int) (o:(TJUrl×Int)):AExit→St→Prop:=ABlock 0 (Zd2 mL o)
noncomputable def Z46 (r_:(Tx×Bool×TJUrl)) (base:TJUrl) (u4:Tx) (u5:Bool):Option (TJUrl×Int) :=
 some ((⟨r_.2.2.Scheme,r_.2.2.Host,r_.2.2.Port,base.Path,u4,u5,r_.2.2.Fragment,r_.2.2.Points⟩:TJUrl),0)
theorem Z6o {mL:Int}{r_:(Tx×Bool×TJUrl)}{base:TJUrl}{u4:Tx}{u5:Bool}{o:(TJUrl×Int)}(h:Z46 r_ base u4 u5=some o) :
  Sv Tryz.prog (GG mL) 0 a41_c0 (Zd3 mL o) ⟨(ue [(6,(.c (.ref 1 8 0 0))),(4,(.c (.ref 0 8 0 0)))]),(upd (upd e0 0 (some (.cells 8 [[.str [],.str [],cI 0,.ro true 1 [],.str [],cB false,.str [],cB false]]))) 1 (some (.cells 8 [[.str r_.2.2.Scheme,.str r_.2.2.Host,cI r_.2.2.Port,.ro false 1 (base.Path.map eStr),.str u4,cB u5,.str r_.2.2.Fragment,cB r_.2.2.Points]]))),2⟩:=by
 unfold Z46 at h
 refine ssr<|un1 (v:=(.agg [.str r_.2.2.Scheme,.str r_.2.2.Host,cI r_.2.2.Port,.ro false 1 (base.Path.map eStr),.str u4,cB u5,.str r_.2.2.Fragment,cB r_.2.2.Points])) rfl<|un<|a2n (h' := upd _ 0 (some (.cells 8 [[.str r_.2.2.Scheme,.str r_.2.2.Host,cI r_.2.2.Port,.ro false 1 (base.Path.map eStr),.str u4,cB u5,.str r_.2.2.Fragment,cB r_.2.2.Points]]))) (n' := 2) rfl rfl hcs<|un1 rfl<|dnil<|Sv.ret ?_
 exact rt0 h rfl rfl ⟨rfl,rfl,rfl⟩
noncomputable def Z47 (base:TJUrl) (ref:Tx):Option (TJUrl×Int) :=
 (Z2c (⟨base.Scheme,base.Host,base.Port,[],[],false,[],false⟩:TJUrl) ref).bind fun r_ =>
 (Z2y r_.1 [47]).bind fun r_1 =>
 (Z2e r_1.1).bind fun r_2 =>
 if ((!r_.2.1)||(!r_2.2)) then
  some ((⟨[],[],0,[],[],false,[],false⟩:TJUrl),3)
 else
  if decide (r_.1=[]) then
   if (!r_.2.2.Asks) then
    Z46 r_ base base.Query base.Asks
   else
    Z46 r_ base r_.2.2.Query r_.2.2.Asks
  else
   if (!r_1.2) then
    (sub? base.Path 0 (wi ((base.Path.length:Int) - 1))).bind fun r_4 =>
    (Z44 [r_4,r_2.1]).bind fun r_5 =>
    Z45 r_ r_.2.2.Path r_5
   else
    Z45 r_ r_.2.2.Path r_2.1
theorem Zd4 {mL:Int}{base:TJUrl}{ref:Tx}{r:(TJUrl×Int)}(h:Z47 base ref=some r):CPure Tryz.prog (GG mL) 41 [(.agg [.str base.Scheme,.str base.Host,cI base.Port,.ro false 1 (base.Path.map eStr),.str base.Query,cB base.Asks,.str base.Fragment,cB base.Points]),(S ref)] (.tup [(.agg [.str r.1.Scheme,.str r.1.Host,cI r.1.Port,.ro false 1 (r.1.Path.map eStr),.str r.1.Query,cB r.1.Asks,.str r.1.Fragment,cB r.1.Points]),(I r.2)]):=by
 refine acalls_of_sv hmix c41 (R:=Z5l r) ?_
 unfold Z47 at h
 refine ssr<|un<|a2v (v:=(.c (.ref 0 8 0 0))) (h' := upd _ 0 (some (.cells 8 [[.str base.Scheme,.str base.Host,cI base.Port,.ro false 1 (base.Path.map eStr),.str base.Query,cB base.Asks,.str base.Fragment,cB base.Points]]))) (n' := 1) rfl rfl hcs<|un<|a2v (v:=(.c (.ref 1 8 0 0))) (h' := upd _ 1 (some (.cells 8 [[.str [],.str [],cI 0,.ro true 1 [],.str [],cB false,.str [],cB false]]))) (n' := 2) rfl rfl hcs<|un1 rfl<|dnil<|ssr<|un1 (v:=(.c (.ref 0 8 0 0))) rfl<|un1 (v:=(S base.Scheme)) rfl<|un1 (v:=(.c (.ref 0 8 0 1))) rfl<|un1 (v:=(S base.Host)) rfl<|un1 (v:=(.c (.ref 0 8 0 2))) rfl<|un1 (v:=(I base.Port)) rfl<|un1 (v:=(.agg [.str base.Scheme,.str base.Host,cI base.Port,.ro true 1 [],.str [],cB false,.str [],cB false])) rfl<|un<|a2v (v:=(.c (.ref 2 8 0 0))) (h' := upd _ 2 (some (.cells 8 [[.str [],.str [],cI 0,.ro true 1 [],.str [],cB false,.str [],cB false]]))) (n' := 3) rfl rfl hcs<|un<|a2n (h' := upd _ 2 (some (.cells 8 [[.str base.Scheme,.str base.Host,cI base.Port,.ro true 1 [],.str [],cB false,.str [],cB false]]))) (n' := 3) rfl rfl hcs<|dnil<|ssr<|un1 rfl<|dweak (show Weak 0 _ ⟨(ue [(21,(S ref)),(19,(.agg [.str base.Scheme,.str base.Host,cI base.Port,.ro true 1 [],.str [],cB false,.str [],cB false])),(18,(I base.Port)),(17,(.c (.ref 0 8 0 2))),(16,(S base.Host)),(15,(.c (.ref 0 8 0 1))),(14,(S base.Scheme)),(13,(.c (.ref 0 8 0 0))),(6,(.c (.ref 2 8 0 0))),(5,(I 0)),(4,(.c (.ref 1 8 0 0))),(2,(.c (.ref 0 8 0 0))),(1,(S ref)),(0,(.agg [.str base.Scheme,.str base.Host,cI base.Port,.ro false 1 (base.Path.map eStr),.str base.Query,cB base.Asks,.str base.Fragment,cB base.Points]))]),(upd (upd (upd (upd e0 0 (some (.cells 8 [[.str base.Scheme,.str base.Host,cI base.Port,.ro false 1 (base.Path.map eStr),.str base.Query,cB base.Asks,.str base.Fragment,cB base.Points]]))) 1 (some (.cells 8 [[.str [],.str [],cI 0,.ro true 1 [],.str [],cB false,.str [],cB false]]))) 2 (some (.cells 8 [[.str base.Scheme,.str base.Host,cI base.Port,lstC true 3 1 ([]:TT).length,.str [],cB false,.str [],cB false]]))) 3 (lstB true 1 (([]:TT).map eStr))),4⟩ from (wcn [0,1,2,1003] rfl (.cf rfl rfl (.cf rfl rfl (.cf rfl rfl (.cr rfl rfl rfl (.cf rfl rfl (.cr rfl rfl rfl (.cf rfl rfl (.cr rfl rfl rfl (.cr rfl rfl rfl (.cf rfl rfl (.cr rfl rfl rfl (.cr rfl rfl rfl (.cf rfl rfl (.cf rfl rfl .nil)))))))))))))) (.non (by decide) (.box (by decide) rfl (blkAs_cells (.sm rfl (.sm rfl (.sm rfl (.sm rfl (.sm rfl (.sm rfl (.sm rfl (.sm rfl .nil))))))))) (.box (by decide) rfl (blkAs_cells (.sm rfl (.sm rfl (.sm rfl (.sm rfl (.sm rfl (.sm rfl (.sm rfl (.sm rfl .nil))))))))) (.box (by decide) rfl (blkAs_cells (.sm rfl (.sm rfl (.sm rfl (.sm rfl (.sm rfl (.sm rfl (.sm rfl (.sm rfl .nil))))))))) .nil)))))) ?_
 obtain ⟨r_,hr1,h⟩:=bnd h
 refine un<|ac_gen (bs:=[2,3]) («as»:=[(.c (.ref 2 8 0 0)),(S ref)]) (h2:=_) (h1:=(upd (upd e0 2 (some (.cells 8 [[.str base.Scheme,.str base.Host,cI base.Port,lstC true 3 1 ([]:TT).length,.str [],cB false,.str [],cB false]]))) 3 (lstB true 1 (([]:TT).map eStr)))) (Z8b (fun _=>rfl) hr1) rfl (.cons (.c (.ref rfl (by decide))) (.cons (avAs_free rfl) .nil)) (hsub_refl _) (.cons rfl (.cons rfl (.nil _))) hcs (by decide) (by decide) (.cons (.c (.ref rfl (by decide))) (.cons (avAs_free rfl) .nil)) (.row (by decide) rfl (fr_map fun _=>rfl) (.box (by decide) rfl (blkAs_cells (.sm rfl (.sm rfl (.sm rfl (.cons (lstC_ren rfl (by decide)) (.sm rfl (.sm rfl (.sm rfl (.sm rfl .nil))))))))) .nil)) ?_
 rintro _ _ _ hn ⟨z_,hz_,rfl,rfl,rfl⟩
 refine ⟨.inl rfl,(upd (upd (rem [2,3] _) 2 (some (.cells 8 [[.str r_.2.2.Scheme,.str r_.2.2.Host,cI r_.2.2.Port,lstC z_ 4 1 r_.2.2.Path.length,.str r_.2.2.Query,cB r_.2.2.Asks,.str r_.2.2.Fragment,cB r_.2.2.Points]]))) 4 (lstB z_ 1 (r_.2.2.Path.map eStr))),fun hbd=>(m3_cons (m3_row rfl (fr_map fun _=>rfl)) (m3_cons (m3_box rfl (by cases z_ <;> rfl)) (m3_rem (in_cons (by decide) (in_cons (by decide) (in_nil _))) (.cons (by decide) (.cons (by decide) .nil)) hbd))),(.tup [(S r_.1),(B r_.2.1)]),5,(by cases z_ <;> rfl),rfl,?_⟩
 refine un1 rfl<|un1 (v:=(S r_.1)) rfl<|un1 (v:=(B r_.2.1)) rfl<|un1 rfl<|un1 rfl<|dnil<|ssr<|un1 rfl ?_
 obtain ⟨r_1,hr2,h⟩:=bnd h
 refine un<|ac_pure (Z7r hr2) rfl rfl rfl<|un1 rfl<|un1 (v:=(S r_1.1)) rfl<|un1 (v:=(B r_1.2)) rfl<|un1 rfl<|un1 rfl<|dnil<|ssr<|un1 rfl ?_
 obtain ⟨r_2,hr3,h⟩:=bnd h
 refine un<|ac_gen (bs:=[]) («as»:=[(S r_1.1)]) (h2:=_) (h1:=e0) (Z8f hr3) rfl (.cons (avAs_free rfl) .nil) (hsub_refl _) (.nil _) (fun _=>rfl) (by decide) (by decide) (.cons (avAs_free rfl) .nil) .nil ?_
 rintro _ _ _ hn ⟨z_1,hz_1,rfl,rfl,rfl⟩
 refine ⟨.inl rfl,(upd (rem [] _) 5 (lstB z_1 1 (r_2.1.map eStr))),fun hbd=>(m3_cons (m3_row rfl (fr_map fun _=>rfl)) (m3_rem (in_nil _) (.cons (by decide) .nil) hbd)),(.tup [(lstV z_1 5 1 r_2.1.length),(B r_2.2)]),6,(by cases z_1 <;> rfl),rfl,?_⟩
 refine un1 rfl<|un1 (v:=(lstV z_1 5 1 r_2.1.length)) rfl<|un1 (v:=(B r_2.2)) rfl<|un1 rfl<|un1 rfl<|dnil<|Sv.seq<|Sv.block<|ssr<|un1 rfl<|un1 (v:=(B (!r_.2.1))) rfl<|un1 rfl ?_
 refine gjoin 3 (d:=41) (v:=(B ((!r_.2.1)||(!r_2.2)))) (fun X hX=>?_) ?_
 ·refine split2 (fun hc1=>?_) (fun hc1=>?_)
  ·refine gs rfl rfl<|gs rfl rfl<|un1 (v:=(B true)) rfl<|dnil ?_
   exact hX _ (.putEq (by rw [hc1]; rfl) (.skp (.skp (.putEq (by rw [hc1]) (.refl _)) rfl) rfl))
  ·refine gt rfl<|a1 rfl<|gt rfl<|a1 (v:=(B (!r_2.2))) rfl<|un1 (v:=(B (!r_2.2))) rfl<|dnil ?_
   exact hX _ (.putEq (by rw [hc1]; rfl) (.skp (.skp (.putEq (by rw [hc1]) (.refl _)) rfl) rfl))
 refine un1 rfl<|dnil ?_
 refine Sv.cnd rfl h (fun h=>?_) fun h=>?_
 ·refine ssr<|un1 (v:=(.agg [.str [],.str [],cI 0,.ro true 1 [],.str [],cB false,.str [],cB false])) rfl<|un<|a2n (h' := upd _ 1 (some (.cells 8 [[.str [],.str [],cI 0,.ro true 1 [],.str [],cB false,.str [],cB false]]))) (n' := 6) rfl rfl hcs<|un1 rfl<|dnil<|Sv.ret ?_
  replace h:=Option.some.inj h
  subst h
  exact ⟨_,.refl _,_,rfl,⟨upd e0 0 (some (.tup [(.agg [.str [],.str [],cI 0,.ro false 1 (([]:TT).map eStr),.str [],cB false,.str [],cB false]),(I 3)])),e0,0⟩,(.tup [(.agg [.str [],.str [],cI 0,.ro false 1 (([]:TT).map eStr),.str [],cB false,.str [],cB false]),(I 3)]),weak_canon [] rfl ndl nll nlz (.cons rfl (avAs_tup (.cons (avAs_agg (.sm rfl (.sm rfl (.sm rfl (.cons .nil (.sm rfl (.sm rfl (.sm rfl (.sm rfl .nil))))))))) (.cons (avAs_free rfl) .nil))) .nil) .nil,rfl,rfl,rfl,rfl⟩
 ·refine ssr<|un1 rfl<|un1 (v:=(B (decide (r_.1=[])))) rfl<|un1 rfl<|dnil ?_
  refine Sv.cnd rfl h (fun h=>?_) fun h=>?_
  ·refine ssr<|un1 (v:=(.c (.ref 0 8 0 3))) rfl<|un1 (v:=(.c (.ro false 1 (base.Path.map eStr)))) rfl<|un1 (v:=(.c (.ref 2 8 0 3))) rfl<|un<|a2n (h' := upd _ 2 (some (.cells 8 [[.str r_.2.2.Scheme,.str r_.2.2.Host,cI r_.2.2.Port,.ro false 1 (base.Path.map eStr),.str r_.2.2.Query,cB r_.2.2.Asks,.str r_.2.2.Fragment,cB r_.2.2.Points]]))) (n' := 6) rfl rfl hcs<|dnil<|Sv.seq<|ssr<|un1 (v:=(.c (.ref 2 8 0 5))) rfl<|un1 (v:=(B r_.2.2.Asks)) rfl<|un1 (v:=(B (!r_.2.2.Asks))) rfl<|dnil ?_
   refine Sv.cnd rfl h (fun h=>?_) fun h=>?_
   ·refine Sv.drawn2<|un1 (v:=(.c (.ref 0 8 0 4))) rfl<|un1 (v:=(S base.Query)) rfl<|un1 (v:=(.c (.ref 0 8 0 5))) rfl<|un1 (v:=(.c (.ref 2 8 0 4))) rfl<|dnil ?_
    refine ⟨?_,?_⟩
    ·refine un1 (v:=(B base.Asks)) rfl<|un<|a2n (h' := upd _ 2 (some (.cells 8 [[.str r_.2.2.Scheme,.str r_.2.2.Host,cI r_.2.2.Port,.ro false 1 (base.Path.map eStr),.str base.Query,cB r_.2.2.Asks,.str r_.2.2.Fragment,cB r_.2.2.Points]]))) (n' := 6) rfl rfl hcs<|un1 (v:=(.c (.ref 2 8 0 5))) rfl<|un<|a2n (h' := upd _ 2 (some (.cells 8 [[.str r_.2.2.Scheme,.str r_.2.2.Host,cI r_.2.2.Port,.ro false 1 (base.Path.map eStr),.str base.Query,cB base.Asks,.str r_.2.2.Fragment,cB r_.2.2.Points]]))) (n' := 6) rfl rfl hcs<|dnil ?_
     exact Sv.weak (wcn [1,2] rfl (.cr rfl rfl rfl (.cr rfl rfl rfl .nil)) (.box (by decide) rfl (blkAs_cells (.sm rfl (.sm rfl (.sm rfl (.sm rfl (.sm rfl (.sm rfl (.sm rfl (.sm rfl .nil))))))))) (.box (by decide) rfl (blkAs_cells (.sm rfl (.sm rfl (.sm rfl (.sm rfl (.sm rfl (.sm rfl (.sm rfl (.sm rfl .nil))))))))) .nil))) (Z6o h)
    ·refine un<|a2n (h' := upd _ 2 (some (.cells 8 [[.str r_.2.2.Scheme,.str r_.2.2.Host,cI r_.2.2.Port,.ro false 1 (base.Path.map eStr),.str base.Query,cB r_.2.2.Asks,.str r_.2.2.Fragment,cB r_.2.2.Points]]))) (n' := 6) rfl rfl hcs<|un1 (v:=(B base.Asks)) rfl<|un1 (v:=(.c (.ref 2 8 0 5))) rfl<|un<|a2n (h' := upd _ 2 (some (.cells 8 [[.str r_.2.2.Scheme,.str r_.2.2.Host,cI r_.2.2.Port,.ro false 1 (base.Path.map eStr),.str base.Query,cB base.Asks,.str r_.2.2.Fragment,cB r_.2.2.Points]]))) (n' := 6) rfl rfl hcs<|dnil ?_
     exact Sv.weak (wcn [1,2] rfl (.cr rfl rfl rfl (.cr rfl rfl rfl .nil)) (.box (by decide) rfl (blkAs_cells (.sm rfl (.sm rfl (.sm rfl (.sm rfl (.sm rfl (.sm rfl (.sm rfl (.sm rfl .nil))))))))) (.box (by decide) rfl (blkAs_cells (.sm rfl (.sm rfl (.sm rfl (.sm rfl (.sm rfl (.sm rfl (.sm rfl (.sm rfl .nil))))))))) .nil))) (Z6o h)
   ·refine Sv.skip ?_
    exact Sv.weak (wcn [1,2] rfl (.cr rfl rfl rfl (.cr rfl rfl rfl .nil)) (.box (by decide) rfl (blkAs_cells (.sm rfl (.sm rfl (.sm rfl (.sm rfl (.sm rfl (.sm rfl (.sm rfl (.sm rfl .nil))))))))) (.box (by decide) rfl (blkAs_cells (.sm rfl (.sm rfl (.sm rfl (.sm rfl (.sm rfl (.sm rfl (.sm rfl (.sm rfl .nil))))))))) .nil))) (Z6o h)
  ·refine ssr<|un1 rfl<|un1 (v:=(B (!r_1.2))) rfl<|un1 rfl<|dnil ?_
   refine Sv.cnd rfl h (fun h=>?_) fun h=>?_
   ·refine srg<|un1 (v:=(.c (.ref 0 8 0 3))) rfl<|un1 (v:=(.c (.ro false 1 (base.Path.map eStr)))) rfl<|un1 (v:=(.c (.ref 0 8 0 3))) rfl<|un1 (v:=(.c (.ro false 1 (base.Path.map eStr)))) rfl<|un1 (v:=(I (base.Path.length:Int))) (s_len (e:=eStr) (xs:=base.Path) rfl)<|un1 (v:=(I (wi ((base.Path.length:Int) - 1)))) rfl ?_
    obtain ⟨r_4,hx1,h⟩:=bnd h
    refine un1 (v:=(.c (.ro false 1 (r_4.map eStr)))) (s_slSl (e:=eStr) rfl rfl rfl hx1)<|un1 rfl<|dweak (show Weak 0 _ ⟨(ue [(69,(.c (.ro false 1 (r_2.1.map eStr)))),(68,(.c (.ro false 1 (r_4.map eStr)))),(67,(I (wi ((base.Path.length:Int) - 1)))),(66,(I (base.Path.length:Int))),(65,(.c (.ro false 1 (base.Path.map eStr)))),(64,(.c (.ref 0 8 0 3))),(63,(.c (.ro false 1 (base.Path.map eStr)))),(62,(.c (.ref 0 8 0 3))),(61,(B (!r_1.2))),(60,(B r_1.2)),(59,(B (!r_1.2))),(45,(B (decide (r_.1=[])))),(44,(S r_.1)),(43,(B (decide (r_.1=[])))),(41,(B ((!r_.2.1)||(!r_2.2)))),(38,(B (!r_.2.1))),(37,(B (!r_.2.1))),(36,(B r_.2.1)),(35,(B ((!r_.2.1)||(!r_2.2)))),(34,(B r_2.2)),(33,(.c (.ro false 1 (r_2.1.map eStr)))),(32,(.tup [(.c (.ro false 1 (r_2.1.map eStr))),(B r_2.2)])),(31,(S r_1.1)),(30,(.tup [(.c (.ro false 1 (r_2.1.map eStr))),(B r_2.2)])),(29,(B r_1.2)),(28,(S r_1.1)),(27,(.tup [(S r_1.1),(B r_1.2)])),(26,(S r_.1)),(25,(.tup [(S r_1.1),(B r_1.2)])),(24,(B r_.2.1)),(23,(S r_.1)),(22,(.tup [(S r_.1),(B r_.2.1)])),(21,(S ref)),(20,(.tup [(S r_.1),(B r_.2.1)])),(19,(.agg [.str base.Scheme,.str base.Host,cI base.Port,.ro true 1 [],.str [],cB false,.str [],cB false])),(18,(I base.Port)),(17,(.c (.ref 0 8 0 2))),(16,(S base.Host)),(15,(.c (.ref 0 8 0 1))),(14,(S base.Scheme)),(13,(.c (.ref 0 8 0 0))),(12,(B r_2.2)),(11,(.c (.ro false 1 (r_2.1.map eStr)))),(10,(B r_1.2)),(9,(S r_1.1)),(8,(B r_.2.1)),(7,(S r_.1)),(6,(.c (.ref 2 8 0 0))),(5,(I 0)),(4,(.c (.ref 1 8 0 0))),(2,(.c (.ref 0 8 0 0))),(1,(S ref)),(0,(.agg [.str base.Scheme,.str base.Host,cI base.Port,.ro false 1 (base.Path.map eStr),.str base.Query,cB base.Asks,.str base.Fragment,cB base.Points]))]),(upd (upd (upd (upd e0 0 (some (.cells 8 [[.str base.Scheme,.str base.Host,cI base.Port,.ro false 1 (base.Path.map eStr),.str base.Query,cB base.Asks,.str base.Fragment,cB base.Points]]))) 1 (some (.cells 8 [[.str [],.str [],cI 0,.ro true 1 [],.str [],cB false,.str [],cB false]]))) 2 (some (.cells 8 [[.str r_.2.2.Scheme,.str r_.2.2.Host,cI r_.2.2.Port,lstC z_ 4 1 r_.2.2.Path.length,.str r_.2.2.Query,cB r_.2.2.Asks,.str r_.2.2.Fragment,cB r_.2.2.Points]]))) 4 (lstB z_ 1 (r_.2.2.Path.map eStr))),6⟩ from (wcn [0,1,2,1003,4,1005] rfl (.cons rfl (.c (lstC_ro (es:=List.map eStr r_2.1) rfl (List.length_map eStr).symm (map_nil_of hz_1) (fun b x hx=>not_in (bs:=[0,1,2,1003,4,1005]) rfl b (((.cons (by decide) (.cons (by decide) (.cons (by decide) (.cons (by decide) .nil)))):HLt _ _) b x hx)) (fr_map fun _=>rfl))) (.cf rfl rfl (.cf rfl rfl (.cf rfl rfl (.cf rfl rfl (.cr rfl rfl rfl (.cf rfl rfl (.cr rfl rfl rfl (.cf rfl rfl (.cf rfl rfl (.cf rfl rfl (.cf rfl rfl (.cf rfl rfl (.cf rfl rfl (.cf rfl rfl (.cf rfl rfl (.cf rfl rfl (.cf rfl rfl (.cf rfl rfl (.cf rfl rfl (.cons rfl (.c (lstC_ro (es:=List.map eStr r_2.1) rfl (List.length_map eStr).symm (map_nil_of hz_1) (fun b x hx=>not_in (bs:=[0,1,2,1003,4,1005]) rfl b (((.cons (by decide) (.cons (by decide) (.cons (by decide) (.cons (by decide) .nil)))):HLt _ _) b x hx)) (fr_map fun _=>rfl))) (.cons rfl (avAs_tup (.cons (.c (lstC_ro (es:=List.map eStr r_2.1) rfl (List.length_map eStr).symm (map_nil_of hz_1) (fun b x hx=>not_in (bs:=[0,1,2,1003,4,1005]) rfl b (((.cons (by decide) (.cons (by decide) (.cons (by decide) (.cons (by decide) .nil)))):HLt _ _) b x hx)) (fr_map fun _=>rfl))) (.cons (avAs_free rfl) .nil))) (.cf rfl rfl (.cons rfl (avAs_tup (.cons (.c (lstC_ro (es:=List.map eStr r_2.1) rfl (List.length_map eStr).symm (map_nil_of hz_1) (fun b x hx=>not_in (bs:=[0,1,2,1003,4,1005]) rfl b (((.cons (by decide) (.cons (by decide) (.cons (by decide) (.cons (by decide) .nil)))):HLt _ _) b x hx)) (fr_map fun _=>rfl))) (.cons (avAs_free rfl) .nil))) (.cf rfl rfl (.cf rfl rfl (.cons rfl (avAs_tup (.cons (avAs_free rfl) (.cons (avAs_free rfl) .nil))) (.cf rfl rfl (.cons rfl (avAs_tup (.cons (avAs_free rfl) (.cons (avAs_free rfl) .nil))) (.cf rfl rfl (.cf rfl rfl (.cons rfl (avAs_tup (.cons (avAs_free rfl) (.cons (avAs_free rfl) .nil))) (.cf rfl rfl (.cons rfl (avAs_tup (.cons (avAs_free rfl) (.cons (avAs_free rfl) .nil))) (.cf rfl rfl (.cf rfl rfl (.cr rfl rfl rfl (.cf rfl rfl (.cr rfl rfl rfl (.cf rfl rfl (.cr rfl rfl rfl (.cf rfl rfl (.cons rfl (.c (lstC_ro (es:=List.map eStr r_2.1) rfl (List.length_map eStr).symm (map_nil_of hz_1) (fun b x hx=>not_in (bs:=[0,1,2,1003,4,1005]) rfl b (((.cons (by decide) (.cons (by decide) (.cons (by decide) (.cons (by decide) .nil)))):HLt _ _) b x hx)) (fr_map fun _=>rfl))) (.cf rfl rfl (.cf rfl rfl (.cf rfl rfl (.cf rfl rfl (.cr rfl rfl rfl (.cf rfl rfl (.cr rfl rfl rfl (.cr rfl rfl rfl (.cf rfl rfl (.cf rfl rfl .nil))))))))))))))))))))))))))))))))))))))))))))))))))))) (.row (by decide) rfl (fr_map fun _=>rfl) (.box (by decide) rfl (blkAs_cells (.sm rfl (.sm rfl (.sm rfl (.cons (lstC_ren rfl (by decide)) (.sm rfl (.sm rfl (.sm rfl (.sm rfl .nil))))))))) (.box (by decide) rfl (blkAs_cells (.sm rfl (.sm rfl (.sm rfl (.sm rfl (.sm rfl (.sm rfl (.sm rfl (.sm rfl .nil))))))))) (.box (by decide) rfl (blkAs_cells (.sm rfl (.sm rfl (.sm rfl (.sm rfl (.sm rfl (.sm rfl (.sm rfl (.sm rfl .nil))))))))) .nil))))))<|un<|a2v (v:=(lstV false 6 1 [r_4,r_2.1].length)) (h' := upd _ 6 (lstB false 1 ([r_4,r_2.1].map (eSl 1 eStr)))) (n' := 7) rfl rfl hcs ?_
    obtain ⟨r_5,hr5,h⟩:=bnd h
    refine un<|ac_gen (bs:=[]) («as»:=[(.c (.ro false 1 ([r_4,r_2.1].map (eSl 1 eStr))))]) (h2:=(upd _ 6 none)) (h1:=e0) (Zd1 hr5) rfl (.cons (.c (lstC_ro (es:=List.map (eSl 1 eStr) [r_4,r_2.1]) rfl (List.length_map (eSl 1 eStr)).symm (map_nil_of hcs) (gone rfl) (fr_map fun _=>rfl))) .nil) (hsub_none (hsub_refl _)) (.nil _) (fun _=>rfl) (by decide) (by decide) (.cons (avAs_free rfl) .nil) .nil ?_
    rintro _ _ _ hn ⟨z_3,hz_3,rfl,rfl,rfl⟩
    refine ⟨.inr ⟨(by cases z_3 <;> rfl),(.row (cl_map fun _=>rfl) .nil)⟩,(upd (rem [] _) 7 (lstB z_3 1 (r_5.map eStr))),fun hbd=>(m3_cons (m3_row rfl (fr_map fun _=>rfl)) (m3_rem (in_nil _) (.cons (by decide) .nil) hbd)),(lstV z_3 7 1 r_5.length),8,(by cases z_3 <;> rfl),rfl,?_⟩
    refine un1 rfl<|dnil ?_
    exact Sv.weak (wcn [1,2,4,7] rfl (.cons rfl (.c (lsr rfl rfl)) (.cr rfl rfl rfl (.cr rfl rfl rfl .nil))) (.row (by decide) rfl (fr_map fun _=>rfl) (.row (by decide) rfl (fr_map fun _=>rfl) (.box (by decide) rfl (blkAs_cells (.sm rfl (.sm rfl (.sm rfl (.cons (lstC_ren rfl (by decide)) (.sm rfl (.sm rfl (.sm rfl (.sm rfl .nil))))))))) (.box (by decide) rfl (blkAs_cells (.sm rfl (.sm rfl (.sm rfl (.sm rfl (.sm rfl (.sm rfl (.sm rfl (.sm rfl .nil))))))))) .nil))))) (Z8p hz_ hz_3 h)
   ·refine Sv.skip ?_
    exact Sv.weak (wcn [1,2,4,5] rfl (.cons rfl (.c (lsr rfl rfl)) (.cr rfl rfl rfl (.cr rfl rfl rfl .nil))) (.row (by decide) rfl (fr_map fun _=>rfl) (.row (by decide) rfl (fr_map fun _=>rfl) (.box (by decide) rfl (blkAs_cells (.sm rfl (.sm rfl (.sm rfl (.cons (lstC_ren rfl (by decide)) (.sm rfl (.sm rfl (.sm rfl (.sm rfl .nil))))))))) (.box (by decide) rfl (blkAs_cells (.sm rfl (.sm rfl (.sm rfl (.sm rfl (.sm rfl (.sm rfl (.sm rfl (.sm rfl .nil))))))))) .nil))))) (Z8p hz_ hz_1 h)
noncomputable abbrev Z6p (i_:Int):Option Tx:=itoa? i_
theorem Z8q {mL:Int}{i_:Int}{r:Tx}(h:Z6p i_=some r):CPure Tryz.prog (GG mL) 56 [(I i_)] (S r):=itoa_ok (g:=1) Tryz.laysM171 (by kernel_rfl) (by kernel_rfl) h
def a68_c0:ACode:=(sr [(mV 19 3),(mV 2 19)]
 .ret)
def a68:AFunc:=⟨1,[(.tmp 2)],(sr [(oP 1 (.box (.tmp 0))),(oP 2 (.mov (.const (.c (.str [])))))]
 (sr [(oP 4 (.faddr 0 (.tmp 1))),(oP 5 (.load false 1 (.tmp 4))),(oP 6 (.bin .add (.tmp 5) (.const (.c (.str [58,47,47]))))),(oP 7 (.faddr 1 (.tmp 1))),(oP 8 (.load false 1 (.tmp 7))),(oP 9 (.bin .add (.tmp 6) (.tmp 8))),(mV 3 9)]
 (.seq (sr [(oP 10 (.faddr 2 (.tmp 1))),(oP 11 (.load false 1 (.tmp 10))),(oP 12 (.bin .neq (.tmp 11) (kI 0)))]
 (.cond (.tmp 12) (.region [(mV 13 3),(oP 14 (.faddr 2 (.tmp 1))),(oP 15 (.load false 1 (.tmp 14))),(oP 16 (.call 56 [(.tmp 15)])),(oP 17 (.bin .add (.const (.c (.str [58]))) (.tmp 16))),(oP 18 (.bin .add (.tmp 13) (.tmp 17))),(mV 3 18)]) .skip))
 a68_c0)))⟩
theorem c68:compFunc Tryz.prog 68=some a68:=by kernel_rfl
def Z8r (r:Tx):AV→Heap→Nat→Prop:=fun v h' n' => v=(S r)∧(h' = e0)∧n' = 0
noncomputable def Z5m (out:Tx):Option Tx :=
 some out
theorem Z8s {mL:Int}{out:Tx}{o:Tx}(h:Z5m out=some o) :
  Sv Tryz.prog (GG mL) 0 a68_c0 (Ends a68.results 0 (Z8r o)) ⟨(upd e0 3 (some (S out))),e0,0⟩:=by
 unfold Z5m at h
 refine ssr<|un1 rfl<|un1 rfl<|dnil<|Sv.ret ?_
 exact rt0 h rfl rfl ⟨rfl,rfl,rfl⟩
noncomputable def Z48 (u_:TJUrl):Option Tx :=
 (cat? u_.Scheme [58,47,47]).bind fun r_ =>
 (cat? r_ u_.Host).bind fun r_1 =>
 if (!decide (u_.Port=0)) then
  (Z6p u_.Port).bind fun r_2 =>
  (cat? [58] r_2).bind fun r_3 =>
  (cat? r_1 r_3).bind fun r_4 =>
  Z5m r_4
 else
  Z5m r_1
theorem Z8t {mL:Int}{u_:TJUrl}{r:Tx}(h:Z48 u_=some r):CPure Tryz.prog (GG mL) 68 [(.agg [.str u_.Scheme,.str u_.Host,cI u_.Port,.ro false 1 (u_.Path.map eStr),.str u_.Query,cB u_.Asks,.str u_.Fragment,cB u_.Points])] (S r):=by
 refine acalls_of_sv hmix c68 (R:=Z8r r) ?_
 unfold Z48 at h
 refine ssr<|un<|a2v (v:=(.c (.ref 0 8 0 0))) (h' := upd _ 0 (some (.cells 8 [[.str u_.Scheme,.str u_.Host,cI u_.Port,.ro false 1 (u_.Path.map eStr),.str u_.Query,cB u_.Asks,.str u_.Fragment,cB u_.Points]]))) (n' := 1) rfl rfl hcs<|un1 rfl<|dnil<|ssr<|un1 (v:=(.c (.ref 0 8 0 0))) rfl<|un1 (v:=(S u_.Scheme)) rfl ?_
 obtain ⟨r_,hx1,h⟩:=bnd h
 refine un1 (v:=(S r_)) (s_cat rfl rfl hx1)<|un1 (v:=(.c (.ref 0 8 0 1))) rfl<|un1 (v:=(S u_.Host)) rfl ?_
 obtain ⟨r_1,hx2,h⟩:=bnd h
 refine un1 (v:=(S r_1)) (s_cat rfl rfl hx2)<|un1 rfl<|dnil<|Sv.seq<|ssr<|un1 (v:=(.c (.ref 0 8 0 2))) rfl<|un1 (v:=(I u_.Port)) rfl<|un1 (v:=(B (!decide (u_.Port=0)))) rfl<|dnil ?_
 refine Sv.cnd rfl h (fun h=>?_) fun h=>?_
 ·refine srg<|un1 rfl<|un1 (v:=(.c (.ref 0 8 0 2))) rfl<|un1 (v:=(I u_.Port)) rfl ?_
  obtain ⟨r_2,hr1,h⟩:=bnd h
  refine un<|ac_pure (Z8q hr1) rfl rfl rfl ?_
  obtain ⟨r_3,hx3,h⟩:=bnd h
  refine un1 (v:=(S r_3)) (s_cat rfl rfl hx3) ?_
  obtain ⟨r_4,hx4,h⟩:=bnd h
  refine un1 (v:=(S r_4)) (s_cat rfl rfl hx4)<|un1 rfl<|dnil ?_
  exact Sv.weak (wcn [] rfl (.cf rfl rfl .nil) .nil) (Z8s h)
 ·refine Sv.skip ?_
  exact Sv.weak (wcn [] rfl (.cf rfl rfl .nil) .nil) (Z8s h)
def a69_c0:ACode:=(.region [(oP 23 (.bin .add (.tmp 7) (kI 1))),(mV 7 23)])
def a69_c1:ACode:=(sr [(oP 8 (.bin .lss (.tmp 7) (.tmp 6)))]
 (.seq (.cond (.tmp 8) .skip (.exit 0))
 (.seq (.block 1 (sr [(mV 9 7),(mV 4 9)]
 (sr [(mV 10 0),(mV 11 4),(oP 12 (.idxS (.tmp 10) (.tmp 11))),(oP 13 (.call 94 [(.tmp 12)]))]
 (.cond (.tmp 13) (.region [(mV 14 0),(mV 15 4),(oP 16 (.idxS (.tmp 14) (.tmp 15))),(oP 17 (.call 95 [(.tmp 3),(.tmp 16)]))]) (.region [(mV 18 0),(mV 19 4),(oP 20 (.idxS (.tmp 18) (.tmp 19))),(oP 21 (.call 96 [(.tmp 20)])),(oP 22 (.call 67 [(.tmp 3),(.tmp 21)]))])))))
 a69_c0)))
def a69:AFunc:=⟨1,[(.tmp 2)],(sr [(oP 2 (.mov (.const (.c (.str [])))))]
 (sr [(oP 3 (.boxB 90))]
 (.seq (sr [(mV 5 0),(oP 6 (.lenS (.tmp 5))),(oP 7 (.mov (kI 0)))]
 (.block 0 (.loop a69_c1)))
 (sr [(oP 24 (.call 70 [(.tmp 3)])),(mV 2 24)]
 .ret))))⟩
theorem c69:compFunc Tryz.prog 69=some a69:=by kernel_rfl
def Z6q (r:Tx):AV→Heap→Nat→Prop:=fun v h' n' => v=(S r)∧(h' = e0)∧n' = 0
abbrev Z8u (s_:Tx) (F_:Tx→Int→Option Tx) (o:Tx) (R_:St→Prop):Prop:=∀(out:Tx) (v7:Int) (zout:Bool) (_:zout=true→out=[]),F_ out v7=some o→∀ s,Weak 0 s ⟨(ue [(7,(I v7)),(6,(I (s_.length:Int))),(3,(.c (.ref 0 2 0 0))),(0,(S s_))]),(upd (upd e0 0 (some (.bld 90 zout 1 out.length))) 1 (bufB zout 5 out)),2⟩→R_ s
abbrev Z8v (F_:Tx→Option Tx) (o:Tx) (R_:St→Prop):Prop:=∀(out1:Tx) (zout1:Bool) (_:zout1=true→out1=[]),F_ out1=some o→∀ s,Weak 0 s ⟨(upd e0 3 (some (.c (.ref 0 2 0 0)))),(upd (upd e0 0 (some (.bld 90 zout1 1 out1.length))) 1 (bufB zout1 5 out1)),2⟩→R_ s
noncomputable def Z49 (v7:Int) (s_:Tx) (self:Tx→Int→Option Tx) (K0_:Tx→Option Tx) (out2:Tx):Option Tx :=
 self out2 (wi (v7+1))
theorem Z8w {mL:Int}{Q:AExit→St→Prop}{v7:Int}{s_:Tx}{self:Tx→Int→Option Tx}{K0_:Tx→Option Tx}{out2:Tx}{zout2:Bool}(hzout2:zout2=true→out2=[]) {o:Tx}(h:Z49 v7 s_ self K0_ out2=some o)
  (hself:Z8u s_ self o (Q .normal))
  (hK0:Z8v K0_ o (Q (.exit 0)))
  (hr:∀ s,Ends a69.results 0 (Z6q o) .ret s→Q .ret s) :
  Sv Tryz.prog (GG mL) 0 a69_c0 Q ⟨(ue [(7,(I v7)),(6,(I (s_.length:Int))),(3,(.c (.ref 0 2 0 0))),(0,(S s_))]),(upd (upd e0 0 (some (.bld 90 zout2 1 out2.length))) 1 (bufB zout2 5 out2)),2⟩:=by
 unfold Z49 at h
 refine srg<|un1 (v:=(I (wi (v7+1)))) rfl<|un1 rfl<|dnil ?_
 exact hself out2 (wi (v7+1)) zout2 hzout2 h _ (wcn [0,1] rfl (.cf rfl rfl (.cf rfl rfl (.cr rfl rfl rfl (.cf rfl rfl .nil)))) (.buf (by decide) rfl (.box (by decide) rfl (.bld rfl (by decide)) .nil)))
abbrev Z8x (s_:Tx) (F_:Nat→Tx→Int→Option Tx) (o:Tx):Nat→St→Prop:=fun k s=>∃(out:Tx),∃(v7:Int),∃(zout:Bool),(zout=true→out=[])∧F_ k out v7=some o∧s=⟨(ue [(7,(I v7)),(6,(I (s_.length:Int))),(3,(.c (.ref 0 2 0 0))),(0,(S s_))]),(upd (upd e0 0 (some (.bld 90 zout 1 out.length))) 1 (bufB zout 5 out)),2⟩
noncomputable def Zk (s_:Tx) (K0_:Tx→Option Tx):Nat→Tx→Int→Option Tx
 | 0,_,_=>none
 | k+1,out,v7 =>
  if decide (v7<(s_.length:Int)) then
   (at? s_ v7).bind fun c_ =>
   (Z1o (c_.toNat:Int)).bind fun r_ =>
   if r_ then
    (at? s_ v7).bind fun c_1 =>
    (Z42 out (c_1.toNat:Int)).bind fun r_1 =>
    Z49 v7 s_ (Zk s_ K0_ k) K0_ r_1
   else
    (at? s_ v7).bind fun c_2 =>
    (Z2b (c_2.toNat:Int)).bind fun r_2 =>
    (Zi out r_2).bind fun r_3 =>
    Z49 v7 s_ (Zk s_ K0_ k) K0_ r_3
  else
   K0_ out
theorem Zd5 {mL:Int}{Q:AExit→St→Prop}{s_:Tx}{K0_:Tx→Option Tx}{k:Nat}{out:Tx}{v7:Int}{zout:Bool}(hzout:zout=true→out=[]) {o:Tx}(h:Zk s_ K0_ k out v7=some o)
  (hK0:Z8v K0_ o (Q (.exit 0)))
  (hr:∀ s,Ends a69.results 0 (Z6q o) .ret s→Q .ret s) :
  Sv Tryz.prog (GG mL) 0 (.loop a69_c1) Q ⟨(ue [(7,(I v7)),(6,(I (s_.length:Int))),(3,(.c (.ref 0 2 0 0))),(0,(S s_))]),(upd (upd e0 0 (some (.bld 90 zout 1 out.length))) 1 (bufB zout 5 out)),2⟩:=by
 refine Sv.loop (I:=Z8x s_ (Zk s_ K0_) o) (fun k s hI=>?_) ⟨out,v7,zout,hzout,h,rfl⟩
 clear h
 clear hzout zout v7 out
 obtain ⟨out,v7,zout,hzout,h,rfl⟩:=hI
 cases k with
 | zero=>cases h
 | succ k =>
 rw [Zk] at h
 have hself:Z8u s_ (Zk s_ K0_ k) o (rnd 0 (Z8x s_ (Zk s_ K0_) o) k Q):=fun out v7 zout hzout h s hw=>⟨_,k,hw,Nat.lt_succ_self k,out,v7,zout,hzout,h,rfl⟩
 refine ssr<|un1 (v:=(B (decide (v7<(s_.length:Int))))) rfl<|dnil<|Sv.seq ?_
 refine Sv.cnd rfl h (fun h=>?_) fun h=>?_
 ·refine Sv.skip<|Sv.seq<|Sv.block<|ssr<|un1 rfl<|un1 rfl<|dnil<|ssr<|un1 rfl<|un1 rfl ?_
  obtain ⟨c_,hx1,h⟩:=bnd h
  refine un1 (v:=(.c (.val (.int .u8 (c_.toNat:Int))))) (s_idxS rfl rfl hx1) ?_
  obtain ⟨r_,hr1,h⟩:=bnd h
  refine un<|ac_pure (Z85 hr1) rfl rfl rfl<|dnil ?_
  refine Sv.cnd rfl h (fun h=>?_) fun h=>?_
  ·refine srg<|un1 rfl<|un1 rfl ?_
   obtain ⟨c_1,hx2,h⟩:=bnd h
   refine un1 (v:=(.c (.val (.int .u8 (c_1.toNat:Int))))) (s_idxS rfl rfl hx2) ?_
   obtain ⟨r_1,hr2,h⟩:=bnd h
   refine un<|ac_gen (bs:=[0,1]) («as»:=[(.c (.ref 0 2 0 0)),(.c (.val (.int .u8 (c_1.toNat:Int))))]) (h2:=_) (h1:=(upd (upd e0 0 (some (.bld 90 zout 1 out.length))) 1 (bufB zout 5 out))) (Z6f (z:=zout) (l:=out) hzout hr2) rfl (.cons (.c (.ref rfl (by decide))) (.cons (avAs_free rfl) .nil)) (hsub_refl _) (.cons rfl (.cons rfl (.nil _))) hcs (by decide) (by decide) (.cons (.c (.ref rfl (by decide))) (.cons (avAs_free rfl) .nil)) (.buf (by decide) rfl (.box (by decide) rfl (.bld rfl (by decide)) .nil)) ?_
   rintro _ _ _ hn ⟨z_,hz_,rfl,rfl,rfl⟩
   refine ⟨.inl rfl,(upd (upd (rem [0,1] _) 0 (some (.bld 90 z_ 2 r_1.length))) 2 (bufB z_ 5 r_1)),fun hbd=>(m3_cons (m3_buf rfl) (m3_cons (m3_box rfl rfl) (m3_rem (in_cons (by decide) (in_cons (by decide) (in_nil _))) (.cons (by decide) (.cons (by decide) .nil)) hbd))),(.c (.val .nilIface)),3,(by cases z_ <;> rfl),rfl,?_⟩
   refine dnil ?_
   exact Sv.weak (wcn [0,2] rfl (.cf rfl rfl (.cf rfl rfl (.cr rfl rfl rfl (.cf rfl rfl .nil)))) (.buf (by decide) rfl (.box (by decide) rfl (.bld rfl (by decide)) .nil))) (Z8w hz_ h hself hK0 hr)
  ·refine srg<|un1 rfl<|un1 rfl ?_
   obtain ⟨c_2,hx3,h⟩:=bnd h
   refine un1 (v:=(.c (.val (.int .u8 (c_2.toNat:Int))))) (s_idxS rfl rfl hx3) ?_
   obtain ⟨r_2,hr3,h⟩:=bnd h
   refine un<|ac_pure (Z86 hr3) rfl rfl rfl ?_
   obtain ⟨r_3,hr4,h⟩:=bnd h
   refine un<|ac_gen (bs:=[0,1]) («as»:=[(.c (.ref 0 2 0 0)),(S r_2)]) (h2:=_) (h1:=(upd (upd e0 0 (some (.bld 90 zout 1 out.length))) 1 (bufB zout 5 out))) (Z1p (z:=zout) (l:=out) hzout hr4) rfl (.cons (.c (.ref rfl (by decide))) (.cons (avAs_free rfl) .nil)) (hsub_refl _) (.cons rfl (.cons rfl (.nil _))) hcs (by decide) (by decide) (.cons (.c (.ref rfl (by decide))) (.cons (avAs_free rfl) .nil)) (.buf (by decide) rfl (.box (by decide) rfl (.bld rfl (by decide)) .nil)) ?_
   rintro _ _ _ hn ⟨z_1,hz_1,rfl,rfl,rfl⟩
   refine ⟨.inl rfl,(upd (upd (rem [0,1] _) 0 (some (.bld 90 z_1 2 r_3.length))) 2 (bufB z_1 5 r_3)),fun hbd=>(m3_cons (m3_buf rfl) (m3_cons (m3_box rfl rfl) (m3_rem (in_cons (by decide) (in_cons (by decide) (in_nil _))) (.cons (by decide) (.cons (by decide) .nil)) hbd))),(.tup [(I (r_2.length:Int)),(.c (.val .nilIface))]),3,(by cases z_1 <;> rfl),rfl,?_⟩
   refine dnil ?_
   exact Sv.weak (wcn [0,2] rfl (.cf rfl rfl (.cf rfl rfl (.cr rfl rfl rfl (.cf rfl rfl .nil)))) (.buf (by decide) rfl (.box (by decide) rfl (.bld rfl (by decide)) .nil))) (Z8w hz_1 h hself hK0 hr)
 ·refine Sv.exit ?_
  exact hK0 out zout hzout h _ (wcn [0,1] rfl (.cr rfl rfl rfl .nil) (.buf (by decide) rfl (.box (by decide) rfl (.bld rfl (by decide)) .nil)))
noncomputable def Z4a (s_:Tx):Option Tx :=
 lim fun kk=>Zk s_ (fun (out1:Tx) => 
   some out1) kk ([]:List UInt8) 0
theorem Zd6 {mL:Int}{s_:Tx}{r:Tx}(h:Z4a s_=some r):CPure Tryz.prog (GG mL) 69 [(S s_)] (S r):=by
 refine acalls_of_sv hmix c69 (R:=Z6q r) ?_
 unfold Z4a at h
 refine ssr<|un1 rfl<|dnil<|ssr<|un<|a2v (v:=(.c (.ref 1 2 0 0))) (h' := upd _ 1 (some (.bld 90 true 0 ([]:List UInt8).length))) (n' := 2) rfl rfl hcs<|dnil<|Sv.seq<|ssr<|un1 rfl<|un1 (v:=(I (s_.length:Int))) rfl<|un1 rfl<|dnil<|Sv.block ?_
 obtain ⟨kk,h⟩:=lim_some h
 refine Sv.weak (wcn [1,1000] rfl (.cf rfl rfl (.cf rfl rfl (.cr rfl rfl rfl (.cf rfl rfl .nil)))) (.nonB (by decide) (.box (by decide) rfl (.bldN (by decide)) .nil))) (Zd5 (fun _=>rfl) h ?_ (fun s hs=>hs))
 ·intro out1 zout1 hzout1 h _ hw1
  refine Sv.weak hw1<|ssr<|un<|ac_gen (bs:=[0,1]) («as»:=[(.c (.ref 0 2 0 0))]) (h2:=_) (h1:=(upd (upd e0 0 (some (.bld 90 zout1 1 out1.length))) 1 (bufB zout1 5 out1))) (Z5f (z:=zout1) (l:=out1) hzout1) rfl (.cons (.c (.ref rfl (by decide))) .nil) (hsub_refl _) (.cons rfl (.cons rfl (.nil _))) hcs (by decide) (by decide) (.cons (.c (.ref rfl (by decide))) .nil) (.buf (by decide) rfl (.box (by decide) rfl (.bld rfl (by decide)) .nil)) ?_
  rintro _ _ _ hn ⟨rfl,rfl,rfl⟩
  refine ⟨.inl rfl,(rem [0,1] _),fun hbd=>(m3_rem (in_cons (by decide) (in_cons (by decide) (in_nil _))) (.nil) hbd),(S out1),2,rfl,rfl,?_⟩
  refine un1 rfl<|dnil<|Sv.ret ?_
  exact rt0 h rfl rfl ⟨rfl,rfl,rfl⟩
def a42_c0:ACode:=(sr [(oP 13 (.bin .lss (.tmp 12) (.tmp 11)))]
 (.seq (.cond (.tmp 13) .skip (.exit 0))
 (.seq (.block 1 (sr [(oP 14 (.iaddr 1 (.tmp 10) (.tmp 12))),(oP 15 (.load false 1 (.tmp 14))),(mV 5 15)]
 (.region [(mV 16 5),(oP 17 (.call 69 [(.tmp 16)])),(oP 18 (.bin .add (.const (.c (.str [47]))) (.tmp 17))),(oP 19 (.call 67 [(.tmp 3),(.tmp 18)]))])))
 (.region [(oP 20 (.bin .add (.tmp 12) (kI 1))),(mV 12 20)]))))
def a42_c2:ACode:=(sr [(oP 33 (.call 70 [(.tmp 3)])),(mV 2 33)]
 .ret)
def a42_c1:ACode:=(.seq (sr [(oP 27 (.faddr 7 (.tmp 1))),(oP 28 (.load false 1 (.tmp 27)))]
 (.cond (.tmp 28) (.region [(oP 29 (.faddr 6 (.tmp 1))),(oP 30 (.load false 1 (.tmp 29))),(oP 31 (.bin .add (.const (.c (.str [35]))) (.tmp 30))),(oP 32 (.call 67 [(.tmp 3),(.tmp 31)]))]) .skip))
 a42_c2)
def a42:AFunc:=⟨1,[(.tmp 2)],(sr [(oP 1 (.box (.tmp 0))),(oP 2 (.mov (.const (.c (.str [])))))]
 (sr [(oP 3 (.boxB 90))]
 (sr [(oP 6 (.load true 8 (.tmp 1))),(oP 7 (.call 68 [(.tmp 6)])),(oP 8 (.call 67 [(.tmp 3),(.tmp 7)]))]
 (.seq (sr [(oP 9 (.faddr 3 (.tmp 1))),(oP 10 (.load false 1 (.tmp 9))),(oP 11 (.len (.tmp 10))),(oP 12 (.mov (kI 0)))]
 (.block 0 (.loop a42_c0)))
 (.seq (sr [(oP 21 (.faddr 5 (.tmp 1))),(oP 22 (.load false 1 (.tmp 21)))]
 (.cond (.tmp 22) (.region [(oP 23 (.faddr 4 (.tmp 1))),(oP 24 (.load false 1 (.tmp 23))),(oP 25 (.bin .add (.const (.c (.str [63]))) (.tmp 24))),(oP 26 (.call 67 [(.tmp 3),(.tmp 25)]))]) .skip))
 a42_c1)))))⟩
theorem c42:compFunc Tryz.prog 42=some a42:=by kernel_rfl
def Z5n (r:Tx):AV→Heap→Nat→Prop:=fun v h' n' => v=(S r)∧(h' = e0)∧n' = 0
abbrev Zd7 (u_:TJUrl) (F_:Tx→Option Tx) (o:Tx) (R_:St→Prop):Prop:=∀(out1:Tx) (zout1:Bool) (_:zout1=true→out1=[]),F_ out1=some o→∀ s,Weak 0 s ⟨(ue [(3,(.c (.ref 1 2 0 0))),(1,(.c (.ref 0 8 0 0)))]),(upd (upd (upd e0 0 (some (.cells 8 [[.str u_.Scheme,.str u_.Host,cI u_.Port,.ro false 1 (u_.Path.map eStr),.str u_.Query,cB u_.Asks,.str u_.Fragment,cB u_.Points]]))) 1 (some (.bld 90 zout1 2 out1.length))) 2 (bufB zout1 5 out1)),3⟩→R_ s
abbrev Z8y (u_:TJUrl) (F_:Nat→Tx→Int→Option Tx) (o:Tx):Nat→St→Prop:=fun k s=>∃(out:Tx),∃(v12:Int),∃(zout:Bool),(zout=true→out=[])∧F_ k out v12=some o∧s=⟨(ue [(12,(I v12)),(11,(I (u_.Path.length:Int))),(10,(.c (.ro false 1 (u_.Path.map eStr)))),(3,(.c (.ref 1 2 0 0))),(1,(.c (.ref 0 8 0 0)))]),(upd (upd (upd e0 0 (some (.cells 8 [[.str u_.Scheme,.str u_.Host,cI u_.Port,.ro false 1 (u_.Path.map eStr),.str u_.Query,cB u_.Asks,.str u_.Fragment,cB u_.Points]]))) 1 (some (.bld 90 zout 2 out.length))) 2 (bufB zout 5 out)),3⟩
abbrev Zd8 (u_:TJUrl) (F_:Tx→Int→Option Tx) (o:Tx) (R_:St→Prop):Prop:=∀(out:Tx) (v12:Int) (zout:Bool) (_:zout=true→out=[]),F_ out v12=some o→∀ s,Weak 0 s ⟨(ue [(12,(I v12)),(11,(I (u_.Path.length:Int))),(10,(.c (.ro false 1 (u_.Path.map eStr)))),(3,(.c (.ref 1 2 0 0))),(1,(.c (.ref 0 8 0 0)))]),(upd (upd (upd e0 0 (some (.cells 8 [[.str u_.Scheme,.str u_.Host,cI u_.Port,.ro false 1 (u_.Path.map eStr),.str u_.Query,cB u_.Asks,.str u_.Fragment,cB u_.Points]]))) 1 (some (.bld 90 zout 2 out.length))) 2 (bufB zout 5 out)),3⟩→R_ s
noncomputable def Z1a (u_:TJUrl) (K0_:Tx→Option Tx):Nat→Tx→Int→Option Tx
 | 0,_,_=>none
 | k+1,out,v12 =>
  if decide (v12<(u_.Path.length:Int)) then
   (at? u_.Path v12).bind fun x_ =>
   (Z4a x_).bind fun r_2 =>
   (cat? [47] r_2).bind fun r_3 =>
   (Zi out r_3).bind fun r_4 =>
   (Z1a u_ K0_ k) r_4 (wi (v12+1))
  else
   K0_ out
theorem Zd9 {mL:Int}{Q:AExit→St→Prop}{u_:TJUrl}{K0_:Tx→Option Tx}{k:Nat}{out:Tx}{v12:Int}{zout:Bool}(hzout:zout=true→out=[]) {o:Tx}(h:Z1a u_ K0_ k out v12=some o)
  (hK0:Zd7 u_ K0_ o (Q (.exit 0)))
  (hr:∀ s,Ends a42.results 0 (Z5n o) .ret s→Q .ret s) :
  Sv Tryz.prog (GG mL) 0 (.loop a42_c0) Q ⟨(ue [(12,(I v12)),(11,(I (u_.Path.length:Int))),(10,(.c (.ro false 1 (u_.Path.map eStr)))),(3,(.c (.ref 1 2 0 0))),(1,(.c (.ref 0 8 0 0)))]),(upd (upd (upd e0 0 (some (.cells 8 [[.str u_.Scheme,.str u_.Host,cI u_.Port,.ro false 1 (u_.Path.map eStr),.str u_.Query,cB u_.Asks,.str u_.Fragment,cB u_.Points]]))) 1 (some (.bld 90 zout 2 out.length))) 2 (bufB zout 5 out)),3⟩:=by
 refine Sv.loop (I:=Z8y u_ (Z1a u_ K0_) o) (fun k s hI=>?_) ⟨out,v12,zout,hzout,h,rfl⟩
 clear h
 clear hzout zout v12 out
 obtain ⟨out,v12,zout,hzout,h,rfl⟩:=hI
 cases k with
 | zero=>cases h
 | succ k =>
 rw [Z1a] at h
 have hself:Zd8 u_ (Z1a u_ K0_ k) o (rnd 0 (Z8y u_ (Z1a u_ K0_) o) k Q):=fun out v12 zout hzout h s hw=>⟨_,k,hw,Nat.lt_succ_self k,out,v12,zout,hzout,h,rfl⟩
 refine ssr<|un1 (v:=(B (decide (v12<(u_.Path.length:Int))))) rfl<|dnil<|Sv.seq ?_
 refine Sv.cnd rfl h (fun h=>?_) fun h=>?_
 ·refine Sv.skip<|Sv.seq<|Sv.block<|ssr ?_
  obtain ⟨x_,hx1,h⟩:=bnd h
  refine un1 (v:=(.c (.rop [.str x_]))) (s_iaddr (e:=eStr) (xs:=u_.Path) rfl rfl hx1)<|un1 (v:=(S x_)) rfl<|un1 rfl<|dnil<|srg<|un1 rfl ?_
  obtain ⟨r_2,hr3,h⟩:=bnd h
  refine un<|ac_pure (Zd6 hr3) rfl rfl rfl ?_
  obtain ⟨r_3,hx2,h⟩:=bnd h
  refine un1 (v:=(S r_3)) (s_cat rfl rfl hx2) ?_
  obtain ⟨r_4,hr4,h⟩:=bnd h
  refine un<|ac_gen (bs:=[1,2]) («as»:=[(.c (.ref 1 2 0 0)),(S r_3)]) (h2:=_) (h1:=(upd (upd e0 1 (some (.bld 90 zout 2 out.length))) 2 (bufB zout 5 out))) (Z1p (z:=zout) (l:=out) hzout hr4) rfl (.cons (.c (.ref rfl (by decide))) (.cons (avAs_free rfl) .nil)) (hsub_refl _) (.cons rfl (.cons rfl (.nil _))) hcs (by decide) (by decide) (.cons (.c (.ref rfl (by decide))) (.cons (avAs_free rfl) .nil)) (.buf (by decide) rfl (.box (by decide) rfl (.bld rfl (by decide)) .nil)) ?_
  rintro _ _ _ hn ⟨z_1,hz_1,rfl,rfl,rfl⟩
  refine ⟨.inl rfl,(upd (upd (rem [1,2] _) 1 (some (.bld 90 z_1 3 r_4.length))) 3 (bufB z_1 5 r_4)),fun hbd=>(m3_cons (m3_buf rfl) (m3_cons (m3_box rfl rfl) (m3_rem (in_cons (by decide) (in_cons (by decide) (in_nil _))) (.cons (by decide) (.cons (by decide) .nil)) hbd))),(.tup [(I (r_3.length:Int)),(.c (.val .nilIface))]),4,(by cases z_1 <;> rfl),rfl,?_⟩
  refine dnil<|srg<|un1 (v:=(I (wi (v12+1)))) rfl<|un1 rfl<|dnil ?_
  exact hself r_4 (wi (v12+1)) z_1 hz_1 h _ (wcn [0,1,3] rfl (.cf rfl rfl (.cf rfl rfl (.cf rfl rfl (.cr rfl rfl rfl (.cr rfl rfl rfl .nil))))) (.buf (by decide) rfl (.box (by decide) rfl (.bld rfl (by decide)) (.box (by decide) rfl (blkAs_cells (.sm rfl (.sm rfl (.sm rfl (.sm rfl (.sm rfl (.sm rfl (.sm rfl (.sm rfl .nil))))))))) .nil))))
 ·refine Sv.exit ?_
  exact hK0 out zout hzout h _ (wcn [0,1,2] rfl (.cr rfl rfl rfl (.cr rfl rfl rfl .nil)) (.buf (by decide) rfl (.box (by decide) rfl (.bld rfl (by decide)) (.box (by decide) rfl (blkAs_cells (.sm rfl (.sm rfl (.sm rfl (.sm rfl (.sm rfl (.sm rfl (.sm rfl (.sm rfl .nil))))))))) .nil))))
noncomputable def Z4b (out3:Tx):Option Tx :=
 some out3
theorem Z8z {mL:Int}{out3:Tx}{zout3:Bool}(hzout3:zout3=true→out3=[]) {o:Tx}(h:Z4b out3=some o) :
  Sv Tryz.prog (GG mL) 0 a42_c2 (Ends a42.results 0 (Z5n o)) ⟨(upd e0 3 (some (.c (.ref 0 2 0 0)))),(upd (upd e0 0 (some (.bld 90 zout3 1 out3.length))) 1 (bufB zout3 5 out3)),2⟩:=by
 unfold Z4b at h
 refine ssr<|un<|ac_gen (bs:=[0,1]) («as»:=[(.c (.ref 0 2 0 0))]) (h2:=_) (h1:=(upd (upd e0 0 (some (.bld 90 zout3 1 out3.length))) 1 (bufB zout3 5 out3))) (Z5f (z:=zout3) (l:=out3) hzout3) rfl (.cons (.c (.ref rfl (by decide))) .nil) (hsub_refl _) (.cons rfl (.cons rfl (.nil _))) hcs (by decide) (by decide) (.cons (.c (.ref rfl (by decide))) .nil) (.buf (by decide) rfl (.box (by decide) rfl (.bld rfl (by decide)) .nil)) ?_
 rintro _ _ _ hn ⟨rfl,rfl,rfl⟩
 refine ⟨.inl rfl,(rem [0,1] _),fun hbd=>(m3_rem (in_cons (by decide) (in_cons (by decide) (in_nil _))) (.nil) hbd),(S out3),2,rfl,rfl,?_⟩
 refine un1 rfl<|dnil<|Sv.ret ?_
 exact rt0 h rfl rfl ⟨rfl,rfl,rfl⟩
noncomputable def Z1r (u_:TJUrl) (out2:Tx):Option Tx :=
 if u_.Points then
  (cat? [35] u_.Fragment).bind fun r_5 =>
  (Zi out2 r_5).bind fun r_6 =>
  Z4b r_6
 else
  Z4b out2
theorem Z90 {mL:Int}{u_:TJUrl}{out2:Tx}{zout2:Bool}(hzout2:zout2=true→out2=[]) {o:Tx}(h:Z1r u_ out2=some o) :
  Sv Tryz.prog (GG mL) 0 a42_c1 (Ends a42.results 0 (Z5n o)) ⟨(ue [(3,(.c (.ref 1 2 0 0))),(1,(.c (.ref 0 8 0 0)))]),(upd (upd (upd e0 0 (some (.cells 8 [[.str u_.Scheme,.str u_.Host,cI u_.Port,.ro false 1 (u_.Path.map eStr),.str u_.Query,cB u_.Asks,.str u_.Fragment,cB u_.Points]]))) 1 (some (.bld 90 zout2 2 out2.length))) 2 (bufB zout2 5 out2)),3⟩:=by
 unfold Z1r at h
 refine Sv.seq<|ssr<|un1 (v:=(.c (.ref 0 8 0 7))) rfl<|un1 (v:=(B u_.Points)) rfl<|dnil ?_
 refine Sv.cnd rfl h (fun h=>?_) fun h=>?_
 ·refine srg<|un1 (v:=(.c (.ref 0 8 0 6))) rfl<|un1 (v:=(S u_.Fragment)) rfl ?_
  obtain ⟨r_5,hx3,h⟩:=bnd h
  refine un1 (v:=(S r_5)) (s_cat rfl rfl hx3) ?_
  obtain ⟨r_6,hr5,h⟩:=bnd h
  refine un<|ac_gen (bs:=[1,2]) («as»:=[(.c (.ref 1 2 0 0)),(S r_5)]) (h2:=_) (h1:=(upd (upd e0 1 (some (.bld 90 zout2 2 out2.length))) 2 (bufB zout2 5 out2))) (Z1p (z:=zout2) (l:=out2) hzout2 hr5) rfl (.cons (.c (.ref rfl (by decide))) (.cons (avAs_free rfl) .nil)) (hsub_refl _) (.cons rfl (.cons rfl (.nil _))) hcs (by decide) (by decide) (.cons (.c (.ref rfl (by decide))) (.cons (avAs_free rfl) .nil)) (.buf (by decide) rfl (.box (by decide) rfl (.bld rfl (by decide)) .nil)) ?_
  rintro _ _ _ hn ⟨z_2,hz_2,rfl,rfl,rfl⟩
  refine ⟨.inl rfl,(upd (upd (rem [1,2] _) 1 (some (.bld 90 z_2 3 r_6.length))) 3 (bufB z_2 5 r_6)),fun hbd=>(m3_cons (m3_buf rfl) (m3_cons (m3_box rfl rfl) (m3_rem (in_cons (by decide) (in_cons (by decide) (in_nil _))) (.cons (by decide) (.cons (by decide) .nil)) hbd))),(.tup [(I (r_5.length:Int)),(.c (.val .nilIface))]),4,(by cases z_2 <;> rfl),rfl,?_⟩
  refine dnil ?_
  exact Sv.weak (wcn [1,3] rfl (.cr rfl rfl rfl .nil) (.buf (by decide) rfl (.box (by decide) rfl (.bld rfl (by decide)) .nil))) (Z8z hz_2 h)
 ·refine Sv.skip ?_
  exact Sv.weak (wcn [1,2] rfl (.cr rfl rfl rfl .nil) (.buf (by decide) rfl (.box (by decide) rfl (.bld rfl (by decide)) .nil))) (Z8z hzout2 h)
noncomputable def Z36 (u_:TJUrl):Option Tx :=
 (Z48 u_).bind fun r_ =>
 (Zi ([]:List UInt8) r_).bind fun r_1 =>
 lim fun kk=>Z1a u_ (fun (out1:Tx) => 
   if u_.Asks then
    (cat? [63] u_.Query).bind fun r_7 =>
    (Zi out1 r_7).bind fun r_8 =>
    Z1r u_ r_8
   else
    Z1r u_ out1) kk r_1 0
theorem Zda {mL:Int}{u_:TJUrl}{r:Tx}(h:Z36 u_=some r):CPure Tryz.prog (GG mL) 42 [(.agg [.str u_.Scheme,.str u_.Host,cI u_.Port,.ro false 1 (u_.Path.map eStr),.str u_.Query,cB u_.Asks,.str u_.Fragment,cB u_.Points])] (S r):=by
 refine acalls_of_sv hmix c42 (R:=Z5n r) ?_
 unfold Z36 at h
 refine ssr<|un<|a2v (v:=(.c (.ref 0 8 0 0))) (h' := upd _ 0 (some (.cells 8 [[.str u_.Scheme,.str u_.Host,cI u_.Port,.ro false 1 (u_.Path.map eStr),.str u_.Query,cB u_.Asks,.str u_.Fragment,cB u_.Points]]))) (n' := 1) rfl rfl hcs<|un1 rfl<|dnil<|ssr<|un<|a2v (v:=(.c (.ref 2 2 0 0))) (h' := upd _ 2 (some (.bld 90 true 1 ([]:List UInt8).length))) (n' := 3) rfl rfl hcs<|dnil<|ssr<|un1 (v:=(.agg [.str u_.Scheme,.str u_.Host,cI u_.Port,.ro false 1 (u_.Path.map eStr),.str u_.Query,cB u_.Asks,.str u_.Fragment,cB u_.Points])) rfl ?_
 obtain ⟨r_,hr1,h⟩:=bnd h
 refine un<|ac_pure (Z8t hr1) rfl rfl rfl ?_
 obtain ⟨r_1,hr2,h⟩:=bnd h
 refine un<|ac_gen (bs:=[2,1]) («as»:=[(.c (.ref 2 2 0 0)),(S r_)]) (h2:=_) (h1:=(upd e0 2 (some (.bld 90 true 1 ([]:List UInt8).length)))) (Z1p (z:=true) (l:=([]:List UInt8)) (fun _=>rfl) hr2) rfl (.cons (.c (.ref rfl (by decide))) (.cons (avAs_free rfl) .nil)) (hsub_refl _) (.cons rfl (.nil _)) hcs (by decide) (by decide) (.cons (.c (.ref rfl (by decide))) (.cons (avAs_free rfl) .nil)) (.nonB (by decide) (.box (by decide) rfl (.bldN (by decide)) .nil)) ?_
 rintro _ _ _ hn ⟨z_,hz_,rfl,rfl,rfl⟩
 refine ⟨.inl rfl,(upd (upd (rem [2,1] _) 2 (some (.bld 90 z_ 3 r_1.length))) 3 (bufB z_ 5 r_1)),fun hbd=>(m3_cons (m3_buf rfl) (m3_cons (m3_box rfl rfl) (m3_rem (in_cons (by decide) (in_nil _)) (.cons (by decide) (.cons (by decide) .nil)) hbd))),(.tup [(I (r_.length:Int)),(.c (.val .nilIface))]),4,(by cases z_ <;> rfl),rfl,?_⟩
 refine dnil<|Sv.seq<|ssr<|un1 (v:=(.c (.ref 0 8 0 3))) rfl<|un1 (v:=(.c (.ro false 1 (u_.Path.map eStr)))) rfl<|un1 (v:=(I (u_.Path.length:Int))) (s_len (e:=eStr) (xs:=u_.Path) rfl)<|un1 rfl<|dnil<|Sv.block ?_
 obtain ⟨kk,h⟩:=lim_some h
 refine Sv.weak (wcn [0,2,3] rfl (.cf rfl rfl (.cf rfl rfl (.cf rfl rfl (.cr rfl rfl rfl (.cr rfl rfl rfl .nil))))) (.buf (by decide) rfl (.box (by decide) rfl (.bld rfl (by decide)) (.box (by decide) rfl (blkAs_cells (.sm rfl (.sm rfl (.sm rfl (.sm rfl (.sm rfl (.sm rfl (.sm rfl (.sm rfl .nil))))))))) .nil)))) (Zd9 hz_ h ?_ (fun s hs=>hs))
 ·intro out1 zout1 hzout1 h _ hw1
  refine Sv.weak hw1<|Sv.seq<|ssr<|un1 (v:=(.c (.ref 0 8 0 5))) rfl<|un1 (v:=(B u_.Asks)) rfl<|dnil ?_
  refine Sv.cnd rfl h (fun h=>?_) fun h=>?_
  ·refine srg<|un1 (v:=(.c (.ref 0 8 0 4))) rfl<|un1 (v:=(S u_.Query)) rfl ?_
   obtain ⟨r_7,hx4,h⟩:=bnd h
   refine un1 (v:=(S r_7)) (s_cat rfl rfl hx4) ?_
   obtain ⟨r_8,hr6,h⟩:=bnd h
   refine un<|ac_gen (bs:=[1,2]) («as»:=[(.c (.ref 1 2 0 0)),(S r_7)]) (h2:=_) (h1:=(upd (upd e0 1 (some (.bld 90 zout1 2 out1.length))) 2 (bufB zout1 5 out1))) (Z1p (z:=zout1) (l:=out1) hzout1 hr6) rfl (.cons (.c (.ref rfl (by decide))) (.cons (avAs_free rfl) .nil)) (hsub_refl _) (.cons rfl (.cons rfl (.nil _))) hcs (by decide) (by decide) (.cons (.c (.ref rfl (by decide))) (.cons (avAs_free rfl) .nil)) (.buf (by decide) rfl (.box (by decide) rfl (.bld rfl (by decide)) .nil)) ?_
   rintro _ _ _ hn ⟨z_3,hz_3,rfl,rfl,rfl⟩
   refine ⟨.inl rfl,(upd (upd (rem [1,2] _) 1 (some (.bld 90 z_3 3 r_8.length))) 3 (bufB z_3 5 r_8)),fun hbd=>(m3_cons (m3_buf rfl) (m3_cons (m3_box rfl rfl) (m3_rem (in_cons (by decide) (in_cons (by decide) (in_nil _))) (.cons (by decide) (.cons (by decide) .nil)) hbd))),(.tup [(I (r_7.length:Int)),(.c (.val .nilIface))]),4,(by cases z_3 <;> rfl),rfl,?_⟩
   refine dnil ?_
   exact Sv.weak (wcn [0,1,3] rfl (.cr rfl rfl rfl (.cr rfl rfl rfl .nil)) (.buf (by decide) rfl (.box (by decide) rfl (.bld rfl (by decide)) (.box (by decide) rfl (blkAs_cells (.sm rfl (.sm rfl (.sm rfl (.sm rfl (.sm rfl (.sm rfl (.sm rfl (.sm rfl .nil))))))))) .nil)))) (Z90 hz_3 h)
  ·refine Sv.skip ?_
   exact Sv.weak (wcn [0,1,2] rfl (.cr rfl rfl rfl (.cr rfl rfl rfl .nil)) (.buf (by decide) rfl (.box (by decide) rfl (.bld rfl (by decide)) (.box (by decide) rfl (blkAs_cells (.sm rfl (.sm rfl (.sm rfl (.sm rfl (.sm rfl (.sm rfl (.sm rfl (.sm rfl .nil))))))))) .nil)))) (Z90 hzout1 h)
def a15_c0:ACode:=(.seq (sr [(mV 53 7),(oP 54 (.bin .neq (.tmp 53) (kI 0)))]
 (.cond (.tmp 54) (sr [(mV 55 7),(oP 4 (.mov (.const (.c (.str []))))),(mV 5 55)]
 .ret) .skip))
 (sr [(oP 56 (.load true 8 (.tmp 8))),(oP 57 (.call 42 [(.tmp 56)])),(mV 12 57)]
 (.seq (sr [(mV 58 12),(oP 59 (.lenS (.tmp 58))),(oP 60 (.bin .gtr (.tmp 59) (kI 500)))]
 (.cond (.tmp 60) (sr [(oP 4 (.mov (.const (.c (.str []))))),(oP 5 (.mov (kI 2)))]
 .ret) .skip))
 (sr [(mV 61 12),(mV 4 61),(oP 5 (.mov (kI 0)))]
 .ret))))
def a15:AFunc:=⟨2,[(.tmp 4),(.tmp 5)],(sr [(oP 4 (.mov (.const (.c (.str []))))),(oP 5 (.mov (kI 0)))]
 (sr [(mV 14 0),(oP 15 (.call 39 [(.tmp 14)])),(mV 13 15),(oP 16 (.ext (.tmp 13) 0)),(oP 17 (.ext (.tmp 13) 1)),(oP 6 (.box (.const (.agg [(.str []),(.str []),(.val (.int .i64 0)),(.ro true 1 []),(.str []),(.val (.bool false)),(.str []),(.val (.bool false))])))),(oN (.store 8 (.tmp 6) (.tmp 16))),(mV 7 17)]
 (.seq (sr [(mV 18 7),(oP 19 (.bin .neq (.tmp 18) (kI 0)))]
 (.cond (.tmp 19) (sr [(mV 20 7),(oP 4 (.mov (.const (.c (.str []))))),(mV 5 20)]
 .ret) .skip))
 (.seq (sr [(mV 21 1),(oP 22 (.lenS (.tmp 21))),(oP 23 (.bin .gtr (.tmp 22) (kI 500)))]
 (.cond (.tmp 23) (sr [(oP 4 (.mov (.const (.c (.str []))))),(oP 5 (.mov (kI 2)))]
 .ret) .skip))
 (sr [(oP 8 (.box (.const (.agg [(.str []),(.str []),(.val (.int .i64 0)),(.ro true 1 []),(.str []),(.val (.bool false)),(.str []),(.val (.bool false))]))))]
 (.seq (sr [(mV 25 1),(oP 26 (.call 40 [(.tmp 25)])),(mV 24 26),(oP 27 (.ext (.tmp 24) 0)),(oP 28 (.ext (.tmp 24) 1)),(oP 29 (.ext (.tmp 24) 2)),(mV 9 27),(mV 10 28),(mV 11 29)]
 (sr [(mV 30 11)]
 (.cond (.tmp 30) (.region [(mV 32 1),(oP 33 (.call 39 [(.tmp 32)])),(mV 31 33),(oP 34 (.ext (.tmp 31) 0)),(oP 35 (.ext (.tmp 31) 1)),(oN (.store 8 (.tmp 8) (.tmp 34))),(mV 7 35)]) (sr [(mV 36 1),(oP 37 (.call 25 [(.tmp 36),(.const (.c (.str [47,47])))]))]
 (.cond (.tmp 37) (.region [(oP 39 (.faddr 0 (.tmp 6))),(oP 40 (.load false 1 (.tmp 39))),(oP 41 (.bin .add (.tmp 40) (.const (.c (.str [58]))))),(mV 42 1),(oP 43 (.bin .add (.tmp 41) (.tmp 42))),(oP 44 (.call 39 [(.tmp 43)])),(mV 38 44),(oP 45 (.ext (.tmp 38) 0)),(oP 46 (.ext (.tmp 38) 1)),(oN (.store 8 (.tmp 8) (.tmp 45))),(mV 7 46)]) (.region [(oP 48 (.load true 8 (.tmp 6))),(mV 49 1),(oP 50 (.call 41 [(.tmp 48),(.tmp 49)])),(mV 47 50),(oP 51 (.ext (.tmp 47) 0)),(oP 52 (.ext (.tmp 47) 1)),(oN (.store 8 (.tmp 8) (.tmp 51))),(mV 7 52)]))))))
 a15_c0))))))⟩
theorem c15:compFunc Tryz.prog 15=some a15:=by kernel_rfl
def Z91 (r:(Tx×Int)):AV→Heap→Nat→Prop:=fun v h' n' => v=(.tup [(S r.1),(I r.2)])∧(h' = e0)∧n' = 0
noncomputable def Z1b (e_:Int) (u0:Tx) (u1:Tx) (u2:Int) (u3:TT) (u4:Tx) (u5:Bool) (u6:Tx) (u7:Bool):Option (Tx×Int) :=
 if (!decide (e_=0)) then
  some ([],e_)
 else
  (Z36 (⟨u0,u1,u2,u3,u4,u5,u6,u7⟩:TJUrl)).bind fun r_1 =>
  if decide (500<(r_1.length:Int)) then
   some ([],2)
  else
   some (r_1,0)
theorem Z6r {mL:Int}{e_:Int}{u0:Tx}{u1:Tx}{u2:Int}{u3:TT}{u4:Tx}{u5:Bool}{u6:Tx}{u7:Bool}{o:(Tx×Int)}(h:Z1b e_ u0 u1 u2 u3 u4 u5 u6 u7=some o) :
  Sv Tryz.prog (GG mL) 0 a15_c0 (Ends a15.results 0 (Z91 o)) ⟨(ue [(8,(.c (.ref 0 8 0 0))),(7,(I e_))]),(upd e0 0 (some (.cells 8 [[.str u0,.str u1,cI u2,.ro false 1 (u3.map eStr),.str u4,cB u5,.str u6,cB u7]]))),1⟩:=by
 unfold Z1b at h
 refine Sv.seq<|ssr<|un1 rfl<|un1 (v:=(B (!decide (e_=0)))) rfl<|dnil ?_
 refine Sv.cnd rfl h (fun h=>?_) fun h=>?_
 ·refine ssr<|un1 rfl<|un1 rfl<|un1 rfl<|dnil<|Sv.ret ?_
  exact rt0 h rfl rfl ⟨rfl,rfl,rfl⟩
 ·refine Sv.skip<|ssr<|un1 (v:=(.agg [.str u0,.str u1,cI u2,.ro false 1 (u3.map eStr),.str u4,cB u5,.str u6,cB u7])) rfl ?_
  obtain ⟨r_1,hr2,h⟩:=bnd h
  refine un<|ac_pure (Zda hr2) rfl rfl rfl<|un1 rfl<|dnil<|Sv.seq<|ssr<|un1 rfl<|un1 (v:=(I (r_1.length:Int))) rfl<|un1 (v:=(B (decide (500<(r_1.length:Int))))) rfl<|dnil ?_
  refine Sv.cnd rfl h (fun h=>?_) fun h=>?_
  ·refine ssr<|un1 rfl<|un1 rfl<|dnil<|Sv.ret ?_
   exact rt0 h rfl rfl ⟨rfl,rfl,rfl⟩
  ·refine Sv.skip<|ssr<|un1 rfl<|un1 rfl<|un1 rfl<|dnil<|Sv.ret ?_
   exact rt0 h rfl rfl ⟨rfl,rfl,rfl⟩
noncomputable def Zl (base:Tx) (ref:Tx):Option (Tx×Int) :=
 (Z1q base).bind fun r_ =>
 if (!decide (r_.2=0)) then
  some ([],r_.2)
 else
  if decide (500<(ref.length:Int)) then
   some ([],2)
  else
   (Z2x ref).bind fun r_2 =>
   if r_2.2.2 then
    (Z1q ref).bind fun r_3 =>
    Z1b r_3.2 r_3.1.Scheme r_3.1.Host r_3.1.Port r_3.1.Path r_3.1.Query r_3.1.Asks r_3.1.Fragment r_3.1.Points
   else
    (Zj ref [47,47]).bind fun r_4 =>
    if r_4 then
     (cat? r_.1.Scheme [58]).bind fun r_5 =>
     (cat? r_5 ref).bind fun r_6 =>
     (Z1q r_6).bind fun r_7 =>
     Z1b r_7.2 r_7.1.Scheme r_7.1.Host r_7.1.Port r_7.1.Path r_7.1.Query r_7.1.Asks r_7.1.Fragment r_7.1.Points
    else
     (Z47 r_.1 ref).bind fun r_8 =>
     Z1b r_8.2 r_8.1.Scheme r_8.1.Host r_8.1.Port r_8.1.Path r_8.1.Query r_8.1.Asks r_8.1.Fragment r_8.1.Points
theorem Z6s {mL:Int}{base:Tx}{ref:Tx}{r:(Tx×Int)}(h:Zl base ref=some r):CPure Tryz.prog (GG mL) 15 [(S base),(S ref)] (.tup [(S r.1),(I r.2)]):=by
 refine acalls_of_sv hmix c15 (R:=Z91 r) ?_
 unfold Zl at h
 refine ssr<|un1 rfl<|un1 rfl<|dnil<|ssr<|un1 rfl ?_
 obtain ⟨r_,hr1,h⟩:=bnd h
 refine un<|ac_pure (Z5i hr1) rfl rfl rfl<|un1 rfl<|un1 (v:=(.agg [.str r_.1.Scheme,.str r_.1.Host,cI r_.1.Port,.ro false 1 (r_.1.Path.map eStr),.str r_.1.Query,cB r_.1.Asks,.str r_.1.Fragment,cB r_.1.Points])) rfl<|un1 (v:=(I r_.2)) rfl<|un<|a2v (v:=(.c (.ref 0 8 0 0))) (h' := upd _ 0 (some (.cells 8 [[.str [],.str [],cI 0,.ro true 1 [],.str [],cB false,.str [],cB false]]))) (n' := 1) rfl rfl hcs<|un<|a2n (h' := upd _ 0 (some (.cells 8 [[.str r_.1.Scheme,.str r_.1.Host,cI r_.1.Port,.ro false 1 (r_.1.Path.map eStr),.str r_.1.Query,cB r_.1.Asks,.str r_.1.Fragment,cB r_.1.Points]]))) (n' := 1) rfl rfl hcs<|un1 rfl<|dnil<|Sv.seq<|ssr<|un1 rfl<|un1 (v:=(B (!decide (r_.2=0)))) rfl<|dnil ?_
 refine Sv.cnd rfl h (fun h=>?_) fun h=>?_
 ·refine ssr<|un1 rfl<|un1 rfl<|un1 rfl<|dnil<|Sv.ret ?_
  exact rt0 h rfl rfl ⟨rfl,rfl,rfl⟩
 ·refine Sv.skip<|Sv.seq<|ssr<|un1 rfl<|un1 (v:=(I (ref.length:Int))) rfl<|un1 (v:=(B (decide (500<(ref.length:Int))))) rfl<|dnil ?_
  refine Sv.cnd rfl h (fun h=>?_) fun h=>?_
  ·refine ssr<|un1 rfl<|un1 rfl<|dnil<|Sv.ret ?_
   exact rt0 h rfl rfl ⟨rfl,rfl,rfl⟩
  ·refine Sv.skip<|ssr<|un<|a2v (v:=(.c (.ref 1 8 0 0))) (h' := upd _ 1 (some (.cells 8 [[.str [],.str [],cI 0,.ro true 1 [],.str [],cB false,.str [],cB false]]))) (n' := 2) rfl rfl hcs<|dnil<|Sv.seq<|ssr<|un1 rfl ?_
   obtain ⟨r_2,hr3,h⟩:=bnd h
   refine un<|ac_pure (Z7o hr3) rfl rfl rfl<|un1 rfl<|un1 (v:=(S r_2.1)) rfl<|un1 (v:=(S r_2.2.1)) rfl<|un1 (v:=(B r_2.2.2)) rfl<|un1 rfl<|un1 rfl<|un1 rfl<|dnil<|ssr<|un1 rfl<|dnil ?_
   refine Sv.cnd rfl h (fun h=>?_) fun h=>?_
   ·refine srg<|un1 rfl ?_
    obtain ⟨r_3,hr4,h⟩:=bnd h
    refine un<|ac_pure (Z5i hr4) rfl rfl rfl<|un1 rfl<|un1 (v:=(.agg [.str r_3.1.Scheme,.str r_3.1.Host,cI r_3.1.Port,.ro false 1 (r_3.1.Path.map eStr),.str r_3.1.Query,cB r_3.1.Asks,.str r_3.1.Fragment,cB r_3.1.Points])) rfl<|un1 (v:=(I r_3.2)) rfl<|un<|a2n (h' := upd _ 1 (some (.cells 8 [[.str r_3.1.Scheme,.str r_3.1.Host,cI r_3.1.Port,.ro false 1 (r_3.1.Path.map eStr),.str r_3.1.Query,cB r_3.1.Asks,.str r_3.1.Fragment,cB r_3.1.Points]]))) (n' := 2) rfl rfl hcs<|un1 rfl<|dnil ?_
    exact Sv.weak (wcn [1] rfl (.cr rfl rfl rfl (.cf rfl rfl .nil)) (.box (by decide) rfl (blkAs_cells (.sm rfl (.sm rfl (.sm rfl (.sm rfl (.sm rfl (.sm rfl (.sm rfl (.sm rfl .nil))))))))) .nil)) (Z6r h)
   ·refine ssr<|un1 rfl ?_
    obtain ⟨r_4,hr5,h⟩:=bnd h
    refine un<|ac_pure (Z5j hr5) rfl rfl rfl<|dnil ?_
    refine Sv.cnd rfl h (fun h=>?_) fun h=>?_
    ·refine srg<|un1 (v:=(.c (.ref 0 8 0 0))) rfl<|un1 (v:=(S r_.1.Scheme)) rfl ?_
     obtain ⟨r_5,hx1,h⟩:=bnd h
     refine un1 (v:=(S r_5)) (s_cat rfl rfl hx1)<|un1 rfl ?_
     obtain ⟨r_6,hx2,h⟩:=bnd h
     refine un1 (v:=(S r_6)) (s_cat rfl rfl hx2) ?_
     obtain ⟨r_7,hr6,h⟩:=bnd h
     refine un<|ac_pure (Z5i hr6) rfl rfl rfl<|un1 rfl<|un1 (v:=(.agg [.str r_7.1.Scheme,.str r_7.1.Host,cI r_7.1.Port,.ro false 1 (r_7.1.Path.map eStr),.str r_7.1.Query,cB r_7.1.Asks,.str r_7.1.Fragment,cB r_7.1.Points])) rfl<|un1 (v:=(I r_7.2)) rfl<|un<|a2n (h' := upd _ 1 (some (.cells 8 [[.str r_7.1.Scheme,.str r_7.1.Host,cI r_7.1.Port,.ro false 1 (r_7.1.Path.map eStr),.str r_7.1.Query,cB r_7.1.Asks,.str r_7.1.Fragment,cB r_7.1.Points]]))) (n' := 2) rfl rfl hcs<|un1 rfl<|dnil ?_
     exact Sv.weak (wcn [1] rfl (.cr rfl rfl rfl (.cf rfl rfl .nil)) (.box (by decide) rfl (blkAs_cells (.sm rfl (.sm rfl (.sm rfl (.sm rfl (.sm rfl (.sm rfl (.sm rfl (.sm rfl .nil))))))))) .nil)) (Z6r h)
    ·refine srg<|un1 (v:=(.agg [.str r_.1.Scheme,.str r_.1.Host,cI r_.1.Port,.ro false 1 (r_.1.Path.map eStr),.str r_.1.Query,cB r_.1.Asks,.str r_.1.Fragment,cB r_.1.Points])) rfl<|un1 rfl ?_
     obtain ⟨r_8,hr7,h⟩:=bnd h
     refine un<|ac_pure (Zd4 hr7) rfl rfl rfl<|un1 rfl<|un1 (v:=(.agg [.str r_8.1.Scheme,.str r_8.1.Host,cI r_8.1.Port,.ro false 1 (r_8.1.Path.map eStr),.str r_8.1.Query,cB r_8.1.Asks,.str r_8.1.Fragment,cB r_8.1.Points])) rfl<|un1 (v:=(I r_8.2)) rfl<|un<|a2n (h' := upd _ 1 (some (.cells 8 [[.str r_8.1.Scheme,.str r_8.1.Host,cI r_8.1.Port,.ro false 1 (r_8.1.Path.map eStr),.str r_8.1.Query,cB r_8.1.Asks,.str r_8.1.Fragment,cB r_8.1.Points]]))) (n' := 2) rfl rfl hcs<|un1 rfl<|dnil ?_
     exact Sv.weak (wcn [1] rfl (.cr rfl rfl rfl (.cf rfl rfl .nil)) (.box (by decide) rfl (blkAs_cells (.sm rfl (.sm rfl (.sm rfl (.sm rfl (.sm rfl (.sm rfl (.sm rfl (.sm rfl .nil))))))))) .nil)) (Z6r h)
def a4:AFunc:=⟨1,[(.cell true 2 2),(.tmp 3)],(sr [(oP 2 (.box (.const (.agg [(.ro true 3 []),(.val (.int .i64 0))])))),(oP 3 (.mov (kI 0)))]
 (sr [(mV 7 0),(mV 8 0),(oP 9 (.call 15 [(.tmp 7),(.tmp 8)])),(mV 6 9),(oP 10 (.ext (.tmp 6) 0)),(oP 11 (.ext (.tmp 6) 1)),(mV 4 10),(mV 5 11)]
 (.seq (sr [(mV 12 5),(oP 13 (.bin .neq (.tmp 12) (kI 0)))]
 (.cond (.tmp 13) (sr [(oP 14 (.build [(.ro true 3 []),(.val (.int .i64 0))] [])),(mV 15 5),(oN (.store 2 (.tmp 2) (.tmp 14))),(mV 3 15)]
 .ret) .skip))
 (sr [(mV 16 4),(oP 17 (.build [(.str []),(.str []),(.val (.int .i64 0))] [(0,(1,(.tmp 16)))])),(oP 18 (.bslice 3 [(.str []),(.str []),(.val (.int .i64 0))] 1 [(0,(.tmp 17))])),(oP 19 (.build [(.ro true 3 []),(.val (.int .i64 0))] [(0,(1,(.tmp 18)))])),(oN (.store 2 (.tmp 2) (.tmp 19))),(oP 3 (.mov (kI 0)))]
 .ret))))⟩
theorem c4:compFunc Tryz.prog 4=some a4:=by kernel_rfl
def Zdb (r:(TJTrail×Int)):AV→Heap→Nat→Prop:=fun v h' n' => v=(.tup [(.agg (e_TJTrail r.1)),(I r.2)])∧(h' = e0)∧n' = 0
noncomputable def Z4c (at_:Tx):Option (TJTrail×Int) :=
 (Zl at_ at_).bind fun r_ =>
 if (!decide (r_.2=0)) then
  some ((⟨[],0⟩:TJTrail),r_.2)
 else
  some ((⟨[(⟨r_.1,[],0⟩:TJEntry)],0⟩:TJTrail),0)
theorem Zdc {mL:Int}{at_:Tx}{r:(TJTrail×Int)}(h:Z4c at_=some r):CPure Tryz.prog (GG mL) 4 [(S at_)] (.tup [(.agg (e_TJTrail r.1)),(I r.2)]):=by
 refine acalls_of_sv hmix c4 (R:=Zdb r) ?_
 unfold Z4c at h
 refine ssr<|un<|a2v (v:=(.c (.ref 0 2 0 0))) (h' := upd _ 0 (some (.cells 2 [[.ro true 3 [],cI 0]]))) (n' := 1) rfl rfl hcs<|un1 rfl<|dnil<|ssr<|un1 rfl<|un1 rfl ?_
 obtain ⟨r_,hr1,h⟩:=bnd h
 refine un<|ac_pure (Z6s hr1) rfl rfl rfl<|un1 rfl<|un1 (v:=(S r_.1)) rfl<|un1 (v:=(I r_.2)) rfl<|un1 rfl<|un1 rfl<|dnil<|Sv.seq<|ssr<|un1 rfl<|un1 (v:=(B (!decide (r_.2=0)))) rfl<|dnil ?_
 refine Sv.cnd rfl h (fun h=>?_) fun h=>?_
 ·refine ssr<|un1 (v:=(.agg [.ro true 3 [],cI 0])) rfl<|un1 rfl<|un<|a2n (h' := upd _ 0 (some (.cells 2 [[.ro true 3 [],cI 0]]))) (n' := 1) rfl rfl hcs<|un1 rfl<|dnil<|Sv.ret ?_
  replace h:=Option.some.inj h
  subst h
  exact ⟨_,.refl _,_,rfl,⟨upd e0 0 (some (.tup [(.agg [.ro false 3 (([]:List TJEntry).map e_TJEntry),cI 0]),(I r_.2)])),e0,0⟩,(.tup [(.agg [.ro false 3 (([]:List TJEntry).map e_TJEntry),cI 0]),(I r_.2)]),weak_canon [] rfl ndl nll nlz (.cons rfl (avAs_tup (.cons (avAs_agg (.cons .nil (.sm rfl .nil))) (.cons (avAs_free rfl) .nil))) .nil) .nil,rfl,rfl,rfl,rfl⟩
 ·refine Sv.skip<|ssr<|un1 rfl<|un1 (v:=(.agg [.str r_.1,.str [],cI 0])) rfl<|un<|a2v (v:=(lstV false 1 3 [(⟨r_.1,[],0⟩:TJEntry)].length)) (h' := upd _ 1 (lstB false 3 ([(⟨r_.1,[],0⟩:TJEntry)].map e_TJEntry))) (n' := 2) rfl rfl hcs<|un1 (v:=(.agg [lstC false 1 3 [(⟨r_.1,[],0⟩:TJEntry)].length,cI 0])) rfl<|un<|a2n (h' := upd _ 0 (some (.cells 2 [[lstC false 1 3 [(⟨r_.1,[],0⟩:TJEntry)].length,cI 0]]))) (n' := 2) rfl rfl hcs<|un1 rfl<|dnil<|Sv.ret ?_
  replace h:=Option.some.inj h
  subst h
  exact ⟨_,.refl _,_,rfl,⟨upd e0 0 (some (.tup [(.agg [.ro false 3 ([(⟨r_.1,[],0⟩:TJEntry)].map e_TJEntry),cI 0]),(I 0)])),e0,0⟩,(.tup [(.agg [.ro false 3 ([(⟨r_.1,[],0⟩:TJEntry)].map e_TJEntry),cI 0]),(I 0)]),weak_canon [] rfl ndl nll nlz (.cons rfl (avAs_tup (.cons (avAs_agg (.cons (lstC_ro (es:=List.map e_TJEntry [(⟨r_.1,[],0⟩:TJEntry)]) rfl (List.length_map e_TJEntry).symm (map_nil_of hcs) (fun b x hx=>not_in (bs:=[]) rfl b (((.nil):HLt _ _) b x hx)) (fr_map fun _=>rfl)) (.sm rfl .nil))) (.cons (avAs_free rfl) .nil))) .nil) .nil,rfl,rfl,rfl,rfl⟩
def a32:AFunc:=⟨1,[(.tmp 2)],(sr [(oP 1 (.box (.tmp 0))),(oP 2 (.mov kF))]
 (sr [(oP 3 (.faddr 1 (.tmp 1))),(oP 4 (.load false 1 (.tmp 3))),(oP 5 (.lenS (.tmp 4))),(oP 6 (.bin .gtr (.tmp 5) (kI 2000))),(mV 2 6)]
 .ret))⟩
theorem c32:compFunc Tryz.prog 32=some a32:=by kernel_rfl
def Zdd (r:Bool):AV→Heap→Nat→Prop:=fun v h' n' => v=(B r)∧(h' = e0)∧n' = 0
def Z4d (e_:TJEntry):Bool :=
 decide (2000<(e_.State.length:Int))
theorem Zde {mL:Int}(e_:TJEntry):CPure Tryz.prog (GG mL) 32 [(.agg (e_TJEntry e_))] (B (Z4d e_)):=by
 generalize h:Z4d e_=o
 refine acalls_of_sv hmix c32 (R:=Zdd o) ?_
 unfold Z4d at h
 refine ssr<|un<|a2v (v:=(.c (.ref 0 3 0 0))) (h' := upd _ 0 (some (.cells 3 [(e_TJEntry e_)]))) (n' := 1) rfl rfl hcs<|un1 rfl<|dnil<|ssr<|un1 (v:=(.c (.ref 0 3 0 1))) rfl<|un1 (v:=(S e_.State)) rfl<|un1 (v:=(I (e_.State.length:Int))) rfl<|un1 (v:=(B (decide (2000<(e_.State.length:Int))))) rfl<|un1 rfl<|dnil<|Sv.ret ?_
 subst h
 exact ⟨_,.refl _,_,rfl,⟨upd e0 0 (some (B (decide (2000<(e_.State.length:Int))))),e0,0⟩,(B (decide (2000<(e_.State.length:Int)))),weak_canon [] rfl ndl nll nlz (.cf rfl rfl .nil) .nil,rfl,rfl,rfl,rfl⟩
def a55_c0:ACode:=(sr [(oP 9 (.bin .lss (.tmp 8) (.tmp 7)))]
 (.seq (.cond (.tmp 9) .skip (.exit 0))
 (.seq (.block 1 (sr [(mV 10 8),(mV 5 10)]
 (sr [(mV 11 1),(mV 12 0),(mV 13 5),(oP 14 (.iaddr 3 (.tmp 12) (.tmp 13))),(oP 15 (.load true 3 (.tmp 14))),(oP 16 (.callv (.tmp 11) [(.tmp 15)]))]
 (.cond (.tmp 16) (sr [(mV 17 5),(mV 4 17)]
 .ret) .skip))))
 (.region [(oP 18 (.bin .add (.tmp 8) (kI 1))),(mV 8 18)]))))
def a55:AFunc:=⟨2,[(.tmp 4)],(sr [(oP 4 (.mov (kI 0)))]
 (.seq (sr [(mV 6 0),(oP 7 (.len (.tmp 6))),(oP 8 (.mov (kI 0)))]
 (.block 0 (.loop a55_c0)))
 (sr [(oP 4 (.mov (.const (.c (.val (.int .i64 (-1)))))))]
 .ret)))⟩
theorem c55:compFunc Tryz.prog 55=some a55:=by kernel_rfl
def Z92 (r:Int):AV→Heap→Nat→Prop:=fun v h' n' => v=(I r)∧(h' = e0)∧n' = 0
abbrev Zdf (F_:Unit→Option Int) (o:Int) (R_:St→Prop):Prop:=∀(_:Unit),F_ ()=some o→∀ s,Weak 0 s ⟨e0,e0,0⟩→R_ s
abbrev Z93 (s_:(List TJEntry)) (F_:Nat→Int→Option Int) (o:Int):Nat→St→Prop:=fun k s=>∃(v8:Int),F_ k v8=some o∧s=⟨(ue [(8,(I v8)),(7,(I (s_.length:Int))),(1,(.c (.fn (.func 32) [] []))),(0,(.c (.ro false 3 (s_.map e_TJEntry))))]),e0,0⟩
abbrev Zdg (s_:(List TJEntry)) (F_:Int→Option Int) (o:Int) (R_:St→Prop):Prop:=∀(v8:Int),F_ v8=some o→∀ s,Weak 0 s ⟨(ue [(8,(I v8)),(7,(I (s_.length:Int))),(1,(.c (.fn (.func 32) [] []))),(0,(.c (.ro false 3 (s_.map e_TJEntry))))]),e0,0⟩→R_ s
noncomputable def Zz (s_:(List TJEntry)) (K0_:Unit→Option Int):Nat→Int→Option Int
 | 0,_=>none
 | k+1,v8 =>
  if decide (v8<(s_.length:Int)) then
   (at? s_ v8).bind fun x_ =>
   if (Z4d x_) then
    some v8
   else
    (Zz s_ K0_ k) (wi (v8+1))
  else
   K0_ ()
theorem Zdh {mL:Int}{Q:AExit→St→Prop}{s_:(List TJEntry)}{K0_:Unit→Option Int}{k:Nat}{v8:Int}{o:Int}(h:Zz s_ K0_ k v8=some o)
  (hK0:Zdf K0_ o (Q (.exit 0)))
  (hr:∀ s,Ends a55.results 0 (Z92 o) .ret s→Q .ret s) :
  Sv Tryz.prog (GG mL) 0 (.loop a55_c0) Q ⟨(ue [(8,(I v8)),(7,(I (s_.length:Int))),(1,(.c (.fn (.func 32) [] []))),(0,(.c (.ro false 3 (s_.map e_TJEntry))))]),e0,0⟩:=by
 refine Sv.loop (I:=Z93 s_ (Zz s_ K0_) o) (fun k s hI=>?_) ⟨v8,h,rfl⟩
 clear h
 clear v8
 obtain ⟨v8,h,rfl⟩:=hI
 cases k with
 | zero=>cases h
 | succ k =>
 rw [Zz] at h
 have hself:Zdg s_ (Zz s_ K0_ k) o (rnd 0 (Z93 s_ (Zz s_ K0_) o) k Q):=fun v8 h s hw=>⟨_,k,hw,Nat.lt_succ_self k,v8,h,rfl⟩
 refine ssr<|un1 (v:=(B (decide (v8<(s_.length:Int))))) rfl<|dnil<|Sv.seq ?_
 refine Sv.cnd rfl h (fun h=>?_) fun h=>?_
 ·refine Sv.skip<|Sv.seq<|Sv.block<|ssr<|un1 rfl<|un1 rfl<|dnil<|ssr<|un1 rfl<|un1 rfl<|un1 rfl ?_
  obtain ⟨x_,hx1,h⟩:=bnd h
  refine un1 (v:=(.c (.rop (e_TJEntry x_)))) (s_iaddr (e:=e_TJEntry) (xs:=s_) rfl rfl hx1)<|un1 (v:=(.agg (e_TJEntry x_))) rfl<|un<|acv_gen (bs:=[]) («as»:=[(.agg (e_TJEntry x_))]) (h2:=_) (h1:=e0) rfl (by kernel_rfl) (Zde (mL:=mL) x_) rfl (.cons (avAs_free rfl) .nil) (hsub_refl _) (.nil _) (fun _=>rfl) (by decide) (by decide) (.cons (avAs_free rfl) .nil) .nil ?_
  rintro _ _ _ hn ⟨rfl,rfl,rfl⟩
  refine ⟨.inl rfl,(rem [] _),fun hbd=>(m3_rem (in_nil _) (.nil) hbd),(B (Z4d x_)),0,rfl,rfl,?_⟩
  refine dnil ?_
  refine Sv.cnd rfl h (fun h=>?_) fun h=>?_
  ·refine ssr<|un1 rfl<|un1 rfl<|dnil<|Sv.ret ?_
   exact hr _ (rt0 h rfl rfl ⟨rfl,rfl,rfl⟩)
  ·refine Sv.skip<|srg<|un1 (v:=(I (wi (v8+1)))) rfl<|un1 rfl<|dnil ?_
   exact hself (wi (v8+1)) h _ (wcn [] rfl (.cf rfl rfl (.cf rfl rfl (.cf rfl rfl (.cf rfl rfl .nil)))) .nil)
 ·refine Sv.exit ?_
  exact hK0 () h _ (wcn [] rfl .nil .nil)
noncomputable def Z5o (s_:(List TJEntry)):Option Int :=
 lim fun kk=>Zz s_ (fun (_:Unit) => 
   some (-1)) kk 0
theorem Zdi {mL:Int}{s_:(List TJEntry)}{r:Int}(h:Z5o s_=some r):CPure Tryz.prog (GG mL) 55 [(.c (.ro false 3 (s_.map e_TJEntry))),(.c (.fn (.func 32) [] []))] (I r):=by
 refine acalls_of_sv hmix c55 (R:=Z92 r) ?_
 unfold Z5o at h
 refine ssr<|un1 rfl<|dnil<|Sv.seq<|ssr<|un1 rfl<|un1 (v:=(I (s_.length:Int))) (s_len (e:=e_TJEntry) (xs:=s_) rfl)<|un1 rfl<|dnil<|Sv.block ?_
 obtain ⟨kk,h⟩:=lim_some h
 refine Sv.weak (wcn [] rfl (.cf rfl rfl (.cf rfl rfl (.cf rfl rfl (.cf rfl rfl .nil)))) .nil) (Zdh h ?_ (fun s hs=>hs))
 ·intro _ h _ hw1
  refine Sv.weak hw1<|ssr<|un1 rfl<|dnil<|Sv.ret ?_
  exact rt0 h rfl rfl ⟨rfl,rfl,rfl⟩
def a31:AFunc:=⟨2,[(.tmp 4)],(sr [(oP 4 (.mov kF))]
 (sr [(mV 5 0),(mV 6 1),(oP 7 (.call 55 [(.tmp 5),(.tmp 6)])),(oP 8 (.bin .geq (.tmp 7) (kI 0))),(mV 4 8)]
 .ret))⟩
theorem c31:compFunc Tryz.prog 31=some a31:=by kernel_rfl
def Zdj (r:Bool):AV→Heap→Nat→Prop:=fun v h' n' => v=(B r)∧(h' = e0)∧n' = 0
noncomputable def Z4e (s_:(List TJEntry)):Option Bool :=
 (Z5o s_).bind fun r_ =>
 some (decide (0≤r_))
theorem Zdk {mL:Int}{s_:(List TJEntry)}{r:Bool}(h:Z4e s_=some r):CPure Tryz.prog (GG mL) 31 [(.c (.ro false 3 (s_.map e_TJEntry))),(.c (.fn (.func 32) [] []))] (B r):=by
 refine acalls_of_sv hmix c31 (R:=Zdj r) ?_
 unfold Z4e at h
 refine ssr<|un1 rfl<|dnil<|ssr<|un1 rfl<|un1 rfl ?_
 obtain ⟨r_,hr1,h⟩:=bnd h
 refine un<|ac_pure (Zdi hr1) rfl rfl rfl<|un1 (v:=(B (decide (0≤r_)))) rfl<|un1 rfl<|dnil<|Sv.ret ?_
 exact rt0 h rfl rfl ⟨rfl,rfl,rfl⟩
def a34:AFunc:=⟨1,[(.tmp 2)],(sr [(oP 2 (.mov kF))]
 (sr [(mV 6 0),(mV 7 0),(oP 8 (.call 15 [(.tmp 6),(.tmp 7)])),(mV 5 8),(oP 9 (.ext (.tmp 5) 0)),(oP 10 (.ext (.tmp 5) 1)),(mV 3 9),(mV 4 10)]
 (sr [(mV 11 4),(oP 12 (.bin .eql (.tmp 11) (kI 0))),(mV 13 12),⟨(some 14),(.mov (.tmp 3)),(some (13,true))⟩,⟨(some 15),(.mov (.tmp 0)),(some (13,true))⟩,⟨(some 16),(.bin .eql (.tmp 14) (.tmp 15)),(some (13,true))⟩,(oP 17 (.pick (.tmp 13) (.tmp 16) kF)),(mV 2 17)]
 .ret)))⟩
theorem c34:compFunc Tryz.prog 34=some a34:=by kernel_rfl
def Zdl (r:Bool):AV→Heap→Nat→Prop:=fun v h' n' => v=(B r)∧(h' = e0)∧n' = 0
noncomputable def Z4f (s_:Tx):Option Bool :=
 (Zl s_ s_).bind fun r_ =>
 some ((decide (r_.2=0))&&(decide (r_.1=s_)))
theorem Zdm {mL:Int}{s_:Tx}{r:Bool}(h:Z4f s_=some r):CPure Tryz.prog (GG mL) 34 [(S s_)] (B r):=by
 refine acalls_of_sv hmix c34 (R:=Zdl r) ?_
 unfold Z4f at h
 refine ssr<|un1 rfl<|dnil<|ssr<|un1 rfl<|un1 rfl ?_
 obtain ⟨r_,hr1,h⟩:=bnd h
 refine un<|ac_pure (Z6s hr1) rfl rfl rfl<|un1 rfl<|un1 (v:=(S r_.1)) rfl<|un1 (v:=(I r_.2)) rfl<|un1 rfl<|un1 rfl<|dnil<|ssr<|un1 rfl<|un1 (v:=(B (decide (r_.2=0)))) rfl<|un1 rfl ?_
 refine gjoin 4 (d:=17) (v:=(B ((decide (r_.2=0))&&(decide (r_.1=s_))))) (fun X hX=>?_) ?_
 ·refine split2 (fun hc1=>?_) (fun hc1=>?_)
  ·refine gt rfl<|a1 rfl<|gt rfl<|a1 rfl<|gt rfl<|a1 (v:=(B (decide (r_.1=s_)))) rfl<|un1 (v:=(B (decide (r_.1=s_)))) rfl<|dnil ?_
   exact hX _ (.putEq (by rw [hc1]; rfl) (.skp (.skp (.skp (.putEq (by rw [hc1]) (.refl _)) rfl) rfl) rfl))
  ·refine gs rfl rfl<|gs rfl rfl<|gs rfl rfl<|un1 (v:=(B false)) rfl<|dnil ?_
   exact hX _ (.putEq (by rw [hc1]; rfl) (.skp (.skp (.skp (.putEq (by rw [hc1]) (.refl _)) rfl) rfl) rfl))
 refine un1 rfl<|dnil<|Sv.ret ?_
 exact rt0 h rfl rfl ⟨rfl,rfl,rfl⟩
def a33:AFunc:=⟨1,[(.tmp 2)],(sr [(oP 1 (.box (.tmp 0))),(oP 2 (.mov kF))]
 (sr [(oP 3 (.faddr 0 (.tmp 1))),(oP 4 (.load false 1 (.tmp 3))),(oP 5 (.call 34 [(.tmp 4)])),(oP 6 (.un .not (.tmp 5))),(mV 2 6)]
 .ret))⟩
theorem c33:compFunc Tryz.prog 33=some a33:=by kernel_rfl
def Zdn (r:Bool):AV→Heap→Nat→Prop:=fun v h' n' => v=(B r)∧(h' = e0)∧n' = 0
noncomputable def Z4g (e_:TJEntry):Option Bool :=
 (Z4f e_.Url).bind fun r_ =>
 some (!r_)
theorem Zdo {mL:Int}{e_:TJEntry}{r:Bool}(h:Z4g e_=some r):CPure Tryz.prog (GG mL) 33 [(.agg (e_TJEntry e_))] (B r):=by
 refine acalls_of_sv hmix c33 (R:=Zdn r) ?_
 unfold Z4g at h
 refine ssr<|un<|a2v (v:=(.c (.ref 0 3 0 0))) (h' := upd _ 0 (some (.cells 3 [(e_TJEntry e_)]))) (n' := 1) rfl rfl hcs<|un1 rfl<|dnil<|ssr<|un1 (v:=(.c (.ref 0 3 0 0))) rfl<|un1 (v:=(S e_.Url)) rfl ?_
 obtain ⟨r_,hr1,h⟩:=bnd h
 refine un<|ac_pure (Zdm hr1) rfl rfl rfl<|un1 (v:=(B (!r_))) rfl<|un1 rfl<|dnil<|Sv.ret ?_
 exact rt0 h rfl rfl ⟨rfl,rfl,rfl⟩
def a55_slices_IndexFunc_JEntry1_c0:ACode:=(sr [(oP 9 (.bin .lss (.tmp 8) (.tmp 7)))]
 (.seq (.cond (.tmp 9) .skip (.exit 0))
 (.seq (.block 1 (sr [(mV 10 8),(mV 5 10)]
 (sr [(mV 11 1),(mV 12 0),(mV 13 5),(oP 14 (.iaddr 3 (.tmp 12) (.tmp 13))),(oP 15 (.load true 3 (.tmp 14))),(oP 16 (.callv (.tmp 11) [(.tmp 15)]))]
 (.cond (.tmp 16) (sr [(mV 17 5),(mV 4 17)]
 .ret) .skip))))
 (.region [(oP 18 (.bin .add (.tmp 8) (kI 1))),(mV 8 18)]))))
def Z94 (r:Int):AV→Heap→Nat→Prop:=fun v h' n' => v=(I r)∧(h' = e0)∧n' = 0
abbrev Zdp (F_:Unit→Option Int) (o:Int) (R_:St→Prop):Prop:=∀(_:Unit),F_ ()=some o→∀ s,Weak 0 s ⟨e0,e0,0⟩→R_ s
abbrev Z95 (s_:(List TJEntry)) (F_:Nat→Int→Option Int) (o:Int):Nat→St→Prop:=fun k s=>∃(v8:Int),F_ k v8=some o∧s=⟨(ue [(8,(I v8)),(7,(I (s_.length:Int))),(1,(.c (.fn (.func 33) [] []))),(0,(.c (.ro false 3 (s_.map e_TJEntry))))]),e0,0⟩
abbrev Zdq (s_:(List TJEntry)) (F_:Int→Option Int) (o:Int) (R_:St→Prop):Prop:=∀(v8:Int),F_ v8=some o→∀ s,Weak 0 s ⟨(ue [(8,(I v8)),(7,(I (s_.length:Int))),(1,(.c (.fn (.func 33) [] []))),(0,(.c (.ro false 3 (s_.map e_TJEntry))))]),e0,0⟩→R_ s
noncomputable def Z10 (s_:(List TJEntry)) (K0_:Unit→Option Int):Nat→Int→Option Int
 | 0,_=>none
 | k+1,v8 =>
  if decide (v8<(s_.length:Int)) then
   (at? s_ v8).bind fun x_ =>
   (Z4g x_).bind fun r_ =>
   if r_ then
    some v8
   else
    (Z10 s_ K0_ k) (wi (v8+1))
  else
   K0_ ()
theorem Zdr {mL:Int}{Q:AExit→St→Prop}{s_:(List TJEntry)}{K0_:Unit→Option Int}{k:Nat}{v8:Int}{o:Int}(h:Z10 s_ K0_ k v8=some o)
  (hK0:Zdp K0_ o (Q (.exit 0)))
  (hr:∀ s,Ends a55.results 0 (Z94 o) .ret s→Q .ret s) :
  Sv Tryz.prog (GG mL) 0 (.loop a55_slices_IndexFunc_JEntry1_c0) Q ⟨(ue [(8,(I v8)),(7,(I (s_.length:Int))),(1,(.c (.fn (.func 33) [] []))),(0,(.c (.ro false 3 (s_.map e_TJEntry))))]),e0,0⟩:=by
 refine Sv.loop (I:=Z95 s_ (Z10 s_ K0_) o) (fun k s hI=>?_) ⟨v8,h,rfl⟩
 clear h
 clear v8
 obtain ⟨v8,h,rfl⟩:=hI
 cases k with
 | zero=>cases h
 | succ k =>
 rw [Z10] at h
 have hself:Zdq s_ (Z10 s_ K0_ k) o (rnd 0 (Z95 s_ (Z10 s_ K0_) o) k Q):=fun v8 h s hw=>⟨_,k,hw,Nat.lt_succ_self k,v8,h,rfl⟩
 refine ssr<|un1 (v:=(B (decide (v8<(s_.length:Int))))) rfl<|dnil<|Sv.seq ?_
 refine Sv.cnd rfl h (fun h=>?_) fun h=>?_
 ·refine Sv.skip<|Sv.seq<|Sv.block<|ssr<|un1 rfl<|un1 rfl<|dnil<|ssr<|un1 rfl<|un1 rfl<|un1 rfl ?_
  obtain ⟨x_,hx1,h⟩:=bnd h
  refine un1 (v:=(.c (.rop (e_TJEntry x_)))) (s_iaddr (e:=e_TJEntry) (xs:=s_) rfl rfl hx1)<|un1 (v:=(.agg (e_TJEntry x_))) rfl ?_
  obtain ⟨r_,hr1,h⟩:=bnd h
  refine un<|acv_gen (bs:=[]) («as»:=[(.agg (e_TJEntry x_))]) (h2:=_) (h1:=e0) rfl (by kernel_rfl) (Zdo hr1) rfl (.cons (avAs_free rfl) .nil) (hsub_refl _) (.nil _) (fun _=>rfl) (by decide) (by decide) (.cons (avAs_free rfl) .nil) .nil ?_
  rintro _ _ _ hn ⟨rfl,rfl,rfl⟩
  refine ⟨.inl rfl,(rem [] _),fun hbd=>(m3_rem (in_nil _) (.nil) hbd),(B r_),0,rfl,rfl,?_⟩
  refine dnil ?_
  refine Sv.cnd rfl h (fun h=>?_) fun h=>?_
  ·refine ssr<|un1 rfl<|un1 rfl<|dnil<|Sv.ret ?_
   exact hr _ (rt0 h rfl rfl ⟨rfl,rfl,rfl⟩)
  ·refine Sv.skip<|srg<|un1 (v:=(I (wi (v8+1)))) rfl<|un1 rfl<|dnil ?_
   exact hself (wi (v8+1)) h _ (wcn [] rfl (.cf rfl rfl (.cf rfl rfl (.cf rfl rfl (.cf rfl rfl .nil)))) .nil)
 ·refine Sv.exit ?_
  exact hK0 () h _ (wcn [] rfl .nil .nil)
noncomputable def Z5p (s_:(List TJEntry)):Option Int :=
 lim fun kk=>Z10 s_ (fun (_:Unit) => 
   some (-1)) kk 0
theorem Zds {mL:Int}{s_:(List TJEntry)}{r:Int}(h:Z5p s_=some r):CPure Tryz.prog (GG mL) 55 [(.c (.ro false 3 (s_.map e_TJEntry))),(.c (.fn (.func 33) [] []))] (I r):=by
 refine acalls_of_sv hmix c55 (R:=Z94 r) ?_
 unfold Z5p at h
 refine ssr<|un1 rfl<|dnil<|Sv.seq<|ssr<|un1 rfl<|un1 (v:=(I (s_.length:Int))) (s_len (e:=e_TJEntry) (xs:=s_) rfl)<|un1 rfl<|dnil<|Sv.block ?_
 obtain ⟨kk,h⟩:=lim_some h
 refine Sv.weak (wcn [] rfl (.cf rfl rfl (.cf rfl rfl (.cf rfl rfl (.cf rfl rfl .nil)))) .nil) (Zdr h ?_ (fun s hs=>hs))
 ·intro _ h _ hw1
  refine Sv.weak hw1<|ssr<|un1 rfl<|dnil<|Sv.ret ?_
  exact rt0 h rfl rfl ⟨rfl,rfl,rfl⟩
def Zdt (r:Bool):AV→Heap→Nat→Prop:=fun v h' n' => v=(B r)∧(h' = e0)∧n' = 0
noncomputable def Z4h (s_:(List TJEntry)):Option Bool :=
 (Z5p s_).bind fun r_ =>
 some (decide (0≤r_))
theorem Zdu {mL:Int}{s_:(List TJEntry)}{r:Bool}(h:Z4h s_=some r):CPure Tryz.prog (GG mL) 31 [(.c (.ro false 3 (s_.map e_TJEntry))),(.c (.fn (.func 33) [] []))] (B r):=by
 refine acalls_of_sv hmix c31 (R:=Zdt r) ?_
 unfold Z4h at h
 refine ssr<|un1 rfl<|dnil<|ssr<|un1 rfl<|un1 rfl ?_
 obtain ⟨r_,hr1,h⟩:=bnd h
 refine un<|ac_pure (Zds hr1) rfl rfl rfl<|un1 (v:=(B (decide (0≤r_)))) rfl<|un1 rfl<|dnil<|Sv.ret ?_
 exact rt0 h rfl rfl ⟨rfl,rfl,rfl⟩
def a73:AFunc:=⟨1,[(.tmp 2),(.tmp 3)],(sr [(oP 2 (.mov (.const (.c (.str []))))),(oP 3 (.mov (kI 0)))]
 (sr [(mV 7 0),(oP 8 (.call 39 [(.tmp 7)])),(mV 6 8),(oP 9 (.ext (.tmp 6) 0)),(oP 10 (.ext (.tmp 6) 1)),(oP 4 (.box (.const (.agg [(.str []),(.str []),(.val (.int .i64 0)),(.ro true 1 []),(.str []),(.val (.bool false)),(.str []),(.val (.bool false))])))),(oN (.store 8 (.tmp 4) (.tmp 9))),(mV 5 10)]
 (.seq (sr [(mV 11 5),(oP 12 (.bin .neq (.tmp 11) (kI 0)))]
 (.cond (.tmp 12) (sr [(mV 13 5),(oP 2 (.mov (.const (.c (.str []))))),(mV 3 13)]
 .ret) .skip))
 (sr [(oP 14 (.load true 8 (.tmp 4))),(oP 15 (.call 68 [(.tmp 14)])),(mV 2 15),(oP 3 (.mov (kI 0)))]
 .ret))))⟩
theorem c73:compFunc Tryz.prog 73=some a73:=by kernel_rfl
def Zdv (r:(Tx×Int)):AV→Heap→Nat→Prop:=fun v h' n' => v=(.tup [(S r.1),(I r.2)])∧(h' = e0)∧n' = 0
noncomputable def Z5q (s_:Tx):Option (Tx×Int) :=
 (Z1q s_).bind fun r_ =>
 if (!decide (r_.2=0)) then
  some ([],r_.2)
 else
  (Z48 r_.1).bind fun r_1 =>
  some (r_1,0)
theorem Zdw {mL:Int}{s_:Tx}{r:(Tx×Int)}(h:Z5q s_=some r):CPure Tryz.prog (GG mL) 73 [(S s_)] (.tup [(S r.1),(I r.2)]):=by
 refine acalls_of_sv hmix c73 (R:=Zdv r) ?_
 unfold Z5q at h
 refine ssr<|un1 rfl<|un1 rfl<|dnil<|ssr<|un1 rfl ?_
 obtain ⟨r_,hr1,h⟩:=bnd h
 refine un<|ac_pure (Z5i hr1) rfl rfl rfl<|un1 rfl<|un1 (v:=(.agg [.str r_.1.Scheme,.str r_.1.Host,cI r_.1.Port,.ro false 1 (r_.1.Path.map eStr),.str r_.1.Query,cB r_.1.Asks,.str r_.1.Fragment,cB r_.1.Points])) rfl<|un1 (v:=(I r_.2)) rfl<|un<|a2v (v:=(.c (.ref 0 8 0 0))) (h' := upd _ 0 (some (.cells 8 [[.str [],.str [],cI 0,.ro true 1 [],.str [],cB false,.str [],cB false]]))) (n' := 1) rfl rfl hcs<|un<|a2n (h' := upd _ 0 (some (.cells 8 [[.str r_.1.Scheme,.str r_.1.Host,cI r_.1.Port,.ro false 1 (r_.1.Path.map eStr),.str r_.1.Query,cB r_.1.Asks,.str r_.1.Fragment,cB r_.1.Points]]))) (n' := 1) rfl rfl hcs<|un1 rfl<|dnil<|Sv.seq<|ssr<|un1 rfl<|un1 (v:=(B (!decide (r_.2=0)))) rfl<|dnil ?_
 refine Sv.cnd rfl h (fun h=>?_) fun h=>?_
 ·refine ssr<|un1 rfl<|un1 rfl<|un1 rfl<|dnil<|Sv.ret ?_
  exact rt0 h rfl rfl ⟨rfl,rfl,rfl⟩
 ·refine Sv.skip<|ssr<|un1 (v:=(.agg [.str r_.1.Scheme,.str r_.1.Host,cI r_.1.Port,.ro false 1 (r_.1.Path.map eStr),.str r_.1.Query,cB r_.1.Asks,.str r_.1.Fragment,cB r_.1.Points])) rfl ?_
  obtain ⟨r_1,hr2,h⟩:=bnd h
  refine un<|ac_pure (Z8t hr2) rfl rfl rfl<|un1 rfl<|un1 rfl<|dnil<|Sv.ret ?_
  exact rt0 h rfl rfl ⟨rfl,rfl,rfl⟩
def a45:AFunc:=⟨1,[(.tmp 2)],(sr [(oP 2 (.mov (.const (.c (.str [])))))]
 (sr [(mV 6 0),(oP 7 (.call 73 [(.tmp 6)])),(mV 5 7),(oP 8 (.ext (.tmp 5) 0)),(oP 9 (.ext (.tmp 5) 1)),(mV 3 8),(mV 4 9)]
 (sr [(mV 10 3),(mV 2 10)]
 .ret)))⟩
theorem c45:compFunc Tryz.prog 45=some a45:=by kernel_rfl
def Zdx (r:Tx):AV→Heap→Nat→Prop:=fun v h' n' => v=(S r)∧(h' = e0)∧n' = 0
noncomputable def Z1s (s_:Tx):Option Tx :=
 (Z5q s_).bind fun r_ =>
 some r_.1
theorem Z5r {mL:Int}{s_:Tx}{r:Tx}(h:Z1s s_=some r):CPure Tryz.prog (GG mL) 45 [(S s_)] (S r):=by
 refine acalls_of_sv hmix c45 (R:=Zdx r) ?_
 unfold Z1s at h
 refine ssr<|un1 rfl<|dnil<|ssr<|un1 rfl ?_
 obtain ⟨r_,hr1,h⟩:=bnd h
 refine un<|ac_pure (Zdw hr1) rfl rfl rfl<|un1 rfl<|un1 (v:=(S r_.1)) rfl<|un1 (v:=(I r_.2)) rfl<|un1 rfl<|un1 rfl<|dnil<|ssr<|un1 rfl<|un1 rfl<|dnil<|Sv.ret ?_
 exact rt0 h rfl rfl ⟨rfl,rfl,rfl⟩
def a35_c0:ACode:=(.cond (.tmp 34) (.seq (.seq (.drawn (.fin [((mV 35 0),(0,0)),((mV 36 4),(0,1)),((oP 37 (.bin .sub (.tmp 36) (kI 1))),(0,2)),((oP 38 (.iaddr 3 (.tmp 35) (.tmp 37))),(0,3)),((oP 39 (.faddr 0 (.tmp 38))),(0,4)),((oP 40 (.load false 1 (.tmp 39))),(0,5)),((oP 42 (.faddr 0 (.tmp 5))),(0,7)),((oP 43 (.load false 1 (.tmp 42))),(0,8)),((oP 41 (.call 45 [(.tmp 40)])),(1,6)),((oP 44 (.call 45 [(.tmp 43)])),(2,9)),((oP 45 (.bin .neq (.tmp 41) (.tmp 44))),(0,10))]))
 (.cond (.tmp 45) (sr [(oP 2 (.mov kF))]
 .ret) .skip))
 (.exit 1)) .skip)
def a35_c2:ACode:=(.seq (sr [(mV 46 3),(oP 47 (.faddr 2 (.tmp 5))),(oP 48 (.load false 1 (.tmp 47))),(oP 49 (.mlook (.i .i64) (.c (.val (.int .i64 0))) false (.tmp 46) (.tmp 48))),(oP 50 (.bin .eql (.tmp 49) (kI 1)))]
 (.cond (.tmp 50) (sr [(oP 2 (.mov kF))]
 .ret) .skip))
 (.region [(mV 51 3),(oP 52 (.faddr 2 (.tmp 5))),(oP 53 (.load false 1 (.tmp 52))),(oN (.mput (.i .i64) (.tmp 51) (.tmp 53) (kI 1)))]))
def a35_c1:ACode:=(.region [(oP 54 (.bin .add (.tmp 9) (kI 1))),(mV 9 54)])
def a35_c3:ACode:=(sr [(oP 10 (.bin .lss (.tmp 9) (.tmp 8)))]
 (.seq (.cond (.tmp 10) .skip (.exit 0))
 (.seq (.block 1 (sr [(mV 11 9),(oP 12 (.iaddr 3 (.tmp 7) (.tmp 9))),(oP 13 (.load true 3 (.tmp 12))),(oP 5 (.box (.const (.agg [(.str []),(.str []),(.val (.int .i64 0))])))),(mV 4 11),(oN (.store 3 (.tmp 5) (.tmp 13)))]
 (.seq (sr [(oP 14 (.faddr 2 (.tmp 5))),(oP 15 (.load false 1 (.tmp 14))),(oP 16 (.bin .lss (.tmp 15) (kI 0))),(mV 17 16),⟨(some 18),(.faddr 2 (.tmp 5)),(some (17,false))⟩,⟨(some 19),(.load false 1 (.tmp 18)),(some (17,false))⟩,⟨(some 20),(.bin .gtr (.tmp 19) (kI 1000000)),(some (17,false))⟩,(oP 21 (.pick (.tmp 17) kT (.tmp 20)))]
 (.cond (.tmp 21) (sr [(oP 2 (.mov kF))]
 .ret) .skip))
 (.seq (.seq (.drawn (.fin [((mV 22 4),(0,0)),((oP 23 (.bin .gtr (.tmp 22) (kI 0))),(0,1)),((mV 24 23),(0,2)),(⟨(some 25),(.mov (.tmp 0)),(some (24,true))⟩,(0,3)),(⟨(some 26),(.mov (.tmp 4)),(some (24,true))⟩,(0,4)),(⟨(some 27),(.bin .sub (.tmp 26) (kI 1)),(some (24,true))⟩,(0,5)),(⟨(some 28),(.iaddr 3 (.tmp 25) (.tmp 27)),(some (24,true))⟩,(0,6)),(⟨(some 29),(.faddr 2 (.tmp 28)),(some (24,true))⟩,(0,7)),(⟨(some 30),(.load false 1 (.tmp 29)),(some (24,true))⟩,(0,8)),(⟨(some 31),(.faddr 2 (.tmp 5)),(some (24,true))⟩,(0,9)),(⟨(some 32),(.load false 1 (.tmp 31)),(some (24,true))⟩,(0,10)),(⟨(some 33),(.bin .eql (.tmp 30) (.tmp 32)),(some (24,true))⟩,(0,11)),((oP 34 (.pick (.tmp 24) (.tmp 33) kF)),(0,12))]))
 a35_c0)
 a35_c2))))
 a35_c1)))
def a35:AFunc:=⟨1,[(.tmp 2)],(sr [(oP 2 (.mov kF))]
 (sr [(oP 6 (.mkmap (.i .i64))),(mV 3 6)]
 (.seq (sr [(mV 7 0),(oP 8 (.len (.tmp 7))),(oP 9 (.mov (kI 0)))]
 (.block 0 (.loop a35_c3)))
 (sr [(oP 2 (.mov kT))]
 .ret))))⟩
theorem c35:compFunc Tryz.prog 35=some a35:=by kernel_rfl
def Z5s (r:Bool):AV→Heap→Nat→Prop:=fun v h' n' => v=(B r)∧(h' = e0)∧n' = 0
abbrev Z6t (l_:(List TJEntry)) (F_:(List (Int×Int))→Int→Option Bool) (o:Bool) (R_:St→Prop):Prop:=∀(seen:(List (Int×Int))) (v9:Int),F_ seen v9=some o→∀ s,Weak 0 s ⟨(ue [(9,(I v9)),(8,(I (l_.length:Int))),(7,(.c (.ro false 3 (l_.map e_TJEntry)))),(3,(.c (.mp 0))),(0,(.c (.ro false 3 (l_.map e_TJEntry))))]),(upd e0 0 (mapB (.i .i64) (fun x=>cI x) (fun (x:Int)=>(I x)) seen)),1⟩→R_ s
abbrev Z6u (F_:Unit→Option Bool) (o:Bool) (R_:St→Prop):Prop:=∀(_:Unit),F_ ()=some o→∀ s,Weak 0 s ⟨e0,e0,0⟩→R_ s
noncomputable def Z37 (v9:Int) (l_:(List TJEntry)) (self:(List (Int×Int))→Int→Option Bool) (K0_:Unit→Option Bool) (seen1:(List (Int×Int))):Option Bool :=
 self seen1 (wi (v9+1))
theorem Z96 {mL:Int}{Q:AExit→St→Prop}{v9:Int}{l_:(List TJEntry)}{self:(List (Int×Int))→Int→Option Bool}{K0_:Unit→Option Bool}{seen1:(List (Int×Int))}{o:Bool}(h:Z37 v9 l_ self K0_ seen1=some o)
  (hself:Z6t l_ self o (Q .normal))
  (hK0:Z6u K0_ o (Q (.exit 0)))
  (hr:∀ s,Ends a35.results 0 (Z5s o) .ret s→Q .ret s) :
  Sv Tryz.prog (GG mL) 0 a35_c1 Q ⟨(ue [(9,(I v9)),(8,(I (l_.length:Int))),(7,(.c (.ro false 3 (l_.map e_TJEntry)))),(3,(.c (.mp 0))),(0,(.c (.ro false 3 (l_.map e_TJEntry))))]),(upd e0 0 (mapB (.i .i64) (fun x=>cI x) (fun (x:Int)=>(I x)) seen1)),1⟩:=by
 unfold Z37 at h
 refine srg<|un1 (v:=(I (wi (v9+1)))) rfl<|un1 rfl<|dnil ?_
 exact hself seen1 (wi (v9+1)) h _ (wcn [0] rfl (.cf rfl rfl (.cf rfl rfl (.cf rfl rfl (.cons rfl (.c (.mp rfl (by decide))) (.cf rfl rfl .nil))))) (.box (by decide) rfl .map .nil))
abbrev Zdy (mL:Int) (Q:AExit→St→Prop):AExit→St→Prop:=AThen (Sv Tryz.prog (GG mL) 0 a35_c1 Q) Q
abbrev Z97 (mL:Int) (Q:AExit→St→Prop):AExit→St→Prop:=ABlock 1 (Zdy mL Q)
abbrev Zdz (mL:Int) (Q:AExit→St→Prop):AExit→St→Prop:=AThen (Sv Tryz.prog (GG mL) 0 a35_c2 (Z97 mL Q)) (Z97 mL Q)
noncomputable def Z2h (l_:(List TJEntry)) (v9:Int) (x_:TJEntry) (seen:(List (Int×Int))) (self:(List (Int×Int))→Int→Option Bool) (K0_:Unit→Option Bool) (v34:Bool):Option Bool :=
 if v34 then
  (at? l_ (wi (v9 - 1))).bind fun x_1 =>
  (Z1s x_1.Url).bind fun r_ =>
  (Z1s x_.Url).bind fun r_1 =>
  if (!decide (r_=r_1)) then
   some false
  else
   Z37 v9 l_ self K0_ seen
 else
  if decide (((mget seen x_.Doc).getD (0:Int))=1) then
   some false
  else
   letIn (mset seen x_.Doc 1) fun mp:(List (Int×Int)) =>
   Z37 v9 l_ self K0_ mp
theorem Z98 {mL:Int}{Q:AExit→St→Prop}{l_:(List TJEntry)}{v9:Int}{x_:TJEntry}{seen:(List (Int×Int))}{self:(List (Int×Int))→Int→Option Bool}{K0_:Unit→Option Bool}{v34:Bool}{o:Bool}(h:Z2h l_ v9 x_ seen self K0_ v34=some o)
  (hself:Z6t l_ self o (Q .normal))
  (hK0:Z6u K0_ o (Q (.exit 0)))
  (hr:∀ s,Ends a35.results 0 (Z5s o) .ret s→Q .ret s) :
  Sv Tryz.prog (GG mL) 0 a35_c0 (Zdz mL Q) ⟨(ue [(34,(B v34)),(9,(I v9)),(8,(I (l_.length:Int))),(7,(.c (.ro false 3 (l_.map e_TJEntry)))),(5,(.c (.ref 1 3 0 0))),(4,(I v9)),(3,(.c (.mp 0))),(0,(.c (.ro false 3 (l_.map e_TJEntry))))]),(upd (upd e0 0 (mapB (.i .i64) (fun x=>cI x) (fun (x:Int)=>(I x)) seen)) 1 (some (.cells 3 [(e_TJEntry x_)]))),2⟩:=by
 unfold Z2h at h
 refine Sv.cnd rfl h (fun h=>?_) fun h=>?_
 ·refine Sv.seq<|Sv.seq<|Sv.drawn<|un1 rfl<|un1 rfl<|un1 (v:=(I (wi (v9 - 1)))) rfl ?_
  obtain ⟨x_1,hx2,h⟩:=bnd h
  refine un1 (v:=(.c (.rop (e_TJEntry x_1)))) (s_iaddr (e:=e_TJEntry) (xs:=l_) rfl rfl hx2)<|un1 (v:=(.c (.rop (e_TJEntry x_1)))) rfl<|un1 (v:=(S x_1.Url)) rfl<|un1 (v:=(.c (.ref 1 3 0 0))) rfl<|un1 (v:=(S x_.Url)) rfl ?_
  obtain ⟨r_,hr1,h⟩:=bnd h
  refine un<|ac_pure (Z5r hr1) rfl rfl rfl ?_
  obtain ⟨r_1,hr2,h⟩:=bnd h
  refine un<|ac_pure (Z5r hr2) rfl rfl rfl<|un1 (v:=(B (!decide (r_=r_1)))) rfl<|dnil ?_
  refine Sv.cnd rfl h (fun h=>?_) fun h=>?_
  ·refine ssr<|un1 rfl<|dnil<|Sv.ret ?_
   exact hr _ (rt0 h rfl rfl ⟨rfl,rfl,rfl⟩)
  ·refine Sv.skip<|Sv.exit ?_
   exact Sv.weak (wcn [0] rfl (.cf rfl rfl (.cf rfl rfl (.cf rfl rfl (.cons rfl (.c (.mp rfl (by decide))) (.cf rfl rfl .nil))))) (.box (by decide) rfl .map .nil)) (Z96 h hself hK0 hr)
 ·refine Sv.skip<|Sv.seq<|ssr<|un1 rfl<|un1 (v:=(.c (.ref 1 3 0 2))) rfl<|un1 (v:=(I x_.Doc)) rfl<|un1 (v:=(I ((mget seen x_.Doc).getD (0:Int)))) (s_mlook (ek:=(fun x=>cI x)) (ev:=(fun (x:Int)=>(I x))) (l:=seen) (key:=x_.Doc) (z:=0) (fun _ _=>rfl) rfl rfl rfl rfl rfl)<|un1 (v:=(B (decide (((mget seen x_.Doc).getD (0:Int))=1)))) rfl<|dnil ?_
  refine Sv.cnd rfl h (fun h=>?_) fun h=>?_
  ·refine ssr<|un1 rfl<|dnil<|Sv.ret ?_
   exact hr _ (rt0 h rfl rfl ⟨rfl,rfl,rfl⟩)
  ·refine Sv.skip<|srg<|un1 rfl<|un1 (v:=(.c (.ref 1 3 0 2))) rfl<|un1 (v:=(I x_.Doc)) rfl ?_
   obtain ⟨mp,hmp⟩:∃ mp:(List (Int×Int)),mp=(mset seen x_.Doc 1):=⟨_,rfl⟩
   replace h:=letAt hmp h
   refine un<|a2n (h' := upd _ 0 (mapB (.i .i64) (fun x=>cI x) (fun (x:Int)=>(I x)) mp)) (n' := 2) rfl (by rw [hmp]; exact s_mput (ek:=(fun x=>cI x)) (ev:=(fun (x:Int)=>(I x))) (l:=seen) (key:=x_.Doc) (val:=1) (fun _ _=>rfl) rfl rfl rfl rfl rfl rfl) hcs ?_
   clear hmp
   refine dnil ?_
   exact Sv.weak (wcn [0] rfl (.cf rfl rfl (.cf rfl rfl (.cf rfl rfl (.cons rfl (.c (.mp rfl (by decide))) (.cf rfl rfl .nil))))) (.box (by decide) rfl .map .nil)) (Z96 h hself hK0 hr)
abbrev Z99 (l_:(List TJEntry)) (F_:Nat→(List (Int×Int))→Int→Option Bool) (o:Bool):Nat→St→Prop:=fun k s=>∃(seen:(List (Int×Int))),∃(v9:Int),F_ k seen v9=some o∧s=⟨(ue [(9,(I v9)),(8,(I (l_.length:Int))),(7,(.c (.ro false 3 (l_.map e_TJEntry)))),(3,(.c (.mp 0))),(0,(.c (.ro false 3 (l_.map e_TJEntry))))]),(upd e0 0 (mapB (.i .i64) (fun x=>cI x) (fun (x:Int)=>(I x)) seen)),1⟩
noncomputable def Zm (l_:(List TJEntry)) (K0_:Unit→Option Bool):Nat→(List (Int×Int))→Int→Option Bool
 | 0,_,_=>none
 | k+1,seen,v9 =>
  if decide (v9<(l_.length:Int)) then
   (at? l_ v9).bind fun x_ =>
   if ((decide (x_.Doc<0))||(decide (1000000<x_.Doc))) then
    some false
   else
    if decide (0<v9) then
     (at? l_ (wi (v9 - 1))).bind fun x_2 =>
     Z2h l_ v9 x_ seen (Zm l_ K0_ k) K0_ (decide (x_2.Doc=x_.Doc))
    else
     Z2h l_ v9 x_ seen (Zm l_ K0_ k) K0_ false
  else
   K0_ ()
theorem Ze0 {mL:Int}{Q:AExit→St→Prop}{l_:(List TJEntry)}{K0_:Unit→Option Bool}{k:Nat}{seen:(List (Int×Int))}{v9:Int}{o:Bool}(h:Zm l_ K0_ k seen v9=some o)
  (hK0:Z6u K0_ o (Q (.exit 0)))
  (hr:∀ s,Ends a35.results 0 (Z5s o) .ret s→Q .ret s) :
  Sv Tryz.prog (GG mL) 0 (.loop a35_c3) Q ⟨(ue [(9,(I v9)),(8,(I (l_.length:Int))),(7,(.c (.ro false 3 (l_.map e_TJEntry)))),(3,(.c (.mp 0))),(0,(.c (.ro false 3 (l_.map e_TJEntry))))]),(upd e0 0 (mapB (.i .i64) (fun x=>cI x) (fun (x:Int)=>(I x)) seen)),1⟩:=by
 refine Sv.loop (I:=Z99 l_ (Zm l_ K0_) o) (fun k s hI=>?_) ⟨seen,v9,h,rfl⟩
 clear h
 clear v9 seen
 obtain ⟨seen,v9,h,rfl⟩:=hI
 cases k with
 | zero=>cases h
 | succ k =>
 rw [Zm] at h
 have hself:Z6t l_ (Zm l_ K0_ k) o (rnd 0 (Z99 l_ (Zm l_ K0_) o) k Q):=fun seen v9 h s hw=>⟨_,k,hw,Nat.lt_succ_self k,seen,v9,h,rfl⟩
 refine ssr<|un1 (v:=(B (decide (v9<(l_.length:Int))))) rfl<|dnil<|Sv.seq ?_
 refine Sv.cnd rfl h (fun h=>?_) fun h=>?_
 ·refine Sv.skip<|Sv.seq<|Sv.block<|ssr<|un1 rfl ?_
  obtain ⟨x_,hx1,h⟩:=bnd h
  refine un1 (v:=(.c (.rop (e_TJEntry x_)))) (s_iaddr (e:=e_TJEntry) (xs:=l_) rfl rfl hx1)<|un1 (v:=(.agg (e_TJEntry x_))) rfl<|un<|a2v (v:=(.c (.ref 1 3 0 0))) (h' := upd _ 1 (some (.cells 3 [[.str [],.str [],cI 0]]))) (n' := 2) rfl rfl hcs<|un1 rfl<|un<|a2n (h' := upd _ 1 (some (.cells 3 [(e_TJEntry x_)]))) (n' := 2) rfl rfl hcs<|dnil<|Sv.seq<|ssr<|un1 (v:=(.c (.ref 1 3 0 2))) rfl<|un1 (v:=(I x_.Doc)) rfl<|un1 (v:=(B (decide (x_.Doc<0)))) rfl<|un1 rfl ?_
  refine gjoin 4 (d:=21) (v:=(B ((decide (x_.Doc<0))||(decide (1000000<x_.Doc))))) (fun X hX=>?_) ?_
  ·refine split2 (fun hc2=>?_) (fun hc2=>?_)
   ·refine gs rfl rfl<|gs rfl rfl<|gs rfl rfl<|un1 (v:=(B true)) rfl<|dnil ?_
    exact hX _ (.putEq (by rw [hc2]; rfl) (.skp (.skp (.skp (.putEq (by rw [hc2]) (.refl _)) rfl) rfl) rfl))
   ·refine gt rfl<|a1 (v:=(.c (.ref 1 3 0 2))) rfl<|gt rfl<|a1 (v:=(I x_.Doc)) rfl<|gt rfl<|a1 (v:=(B (decide (1000000<x_.Doc)))) rfl<|un1 (v:=(B (decide (1000000<x_.Doc)))) rfl<|dnil ?_
    exact hX _ (.putEq (by rw [hc2]; rfl) (.skp (.skp (.skp (.putEq (by rw [hc2]) (.refl _)) rfl) rfl) rfl))
  refine dnil ?_
  refine Sv.cnd rfl h (fun h=>?_) fun h=>?_
  ·refine ssr<|un1 rfl<|dnil<|Sv.ret ?_
   exact hr _ (rt0 h rfl rfl ⟨rfl,rfl,rfl⟩)
  ·refine Sv.skip<|Sv.seq<|Sv.seq<|Sv.drawn<|un1 rfl<|un1 (v:=(B (decide (0<v9)))) rfl<|un1 rfl ?_
   refine spl h (fun h=>?_) fun h=>?_
   ·refine gt rfl<|a1 rfl<|gt rfl<|a1 rfl<|gt rfl<|a1 (v:=(I (wi (v9 - 1)))) rfl ?_
    obtain ⟨x_2,hx3,h⟩:=bnd h
    refine gt rfl<|a1 (v:=(.c (.rop (e_TJEntry x_2)))) (s_iaddr (e:=e_TJEntry) (xs:=l_) rfl rfl hx3)<|gt rfl<|a1 (v:=(.c (.rop [cI x_2.Doc]))) rfl<|gt rfl<|a1 (v:=(I x_2.Doc)) rfl<|gt rfl<|a1 (v:=(.c (.ref 1 3 0 2))) rfl<|gt rfl<|a1 (v:=(I x_.Doc)) rfl<|gt rfl<|a1 (v:=(B (decide (x_2.Doc=x_.Doc)))) rfl<|un1 (v:=(B (decide (x_2.Doc=x_.Doc)))) rfl<|dnil ?_
    exact Sv.weak (wcn [0,1] rfl (.cf rfl rfl (.cf rfl rfl (.cf rfl rfl (.cf rfl rfl (.cr rfl rfl rfl (.cf rfl rfl (.cons rfl (.c (.mp rfl (by decide))) (.cf rfl rfl .nil)))))))) (.box (by decide) rfl (blkAs_cells (.sm rfl (.sm rfl (.sm rfl .nil)))) (.box (by decide) rfl .map .nil))) (Z98 h hself hK0 hr)
   ·repeat (first | refine gu rfl ?_ | refine gs rfl rfl ?_)
    refine un1 (v:=(B false)) rfl<|dnil ?_
    exact Sv.weak (wcn [0,1] rfl (.cf rfl rfl (.cf rfl rfl (.cf rfl rfl (.cf rfl rfl (.cr rfl rfl rfl (.cf rfl rfl (.cons rfl (.c (.mp rfl (by decide))) (.cf rfl rfl .nil)))))))) (.box (by decide) rfl (blkAs_cells (.sm rfl (.sm rfl (.sm rfl .nil)))) (.box (by decide) rfl .map .nil))) (Z98 h hself hK0 hr)
 ·refine Sv.exit ?_
  exact hK0 () h _ (wcn [] rfl .nil .nil)
noncomputable def Z4i (l_:(List TJEntry)):Option Bool :=
 lim fun kk=>Zm l_ (fun (_:Unit) => 
   some true) kk ([]:List (Int×Int)) 0
theorem Ze1 {mL:Int}{l_:(List TJEntry)}{r:Bool}(h:Z4i l_=some r):CPure Tryz.prog (GG mL) 35 [(.c (.ro false 3 (l_.map e_TJEntry)))] (B r):=by
 refine acalls_of_sv hmix c35 (R:=Z5s r) ?_
 unfold Z4i at h
 refine ssr<|un1 rfl<|dnil<|ssr<|un<|a2v (v:=(.c (.mp 0))) (h' := upd _ 0 (mapB (.i .i64) (fun x=>cI x) (fun (x:Int)=>(I x)) ([]:List (Int×Int)))) (n' := 1) rfl rfl hcs<|un1 rfl<|dnil<|Sv.seq<|ssr<|un1 rfl<|un1 (v:=(I (l_.length:Int))) (s_len (e:=e_TJEntry) (xs:=l_) rfl)<|un1 rfl<|dnil<|Sv.block ?_
 obtain ⟨kk,h⟩:=lim_some h
 refine Sv.weak (wcn [0] rfl (.cf rfl rfl (.cf rfl rfl (.cf rfl rfl (.cons rfl (.c (.mp rfl (by decide))) (.cf rfl rfl .nil))))) (.box (by decide) rfl .map .nil)) (Ze0 h ?_ (fun s hs=>hs))
 ·intro _ h _ hw1
  refine Sv.weak hw1<|ssr<|un1 rfl<|dnil<|Sv.ret ?_
  exact rt0 h rfl rfl ⟨rfl,rfl,rfl⟩
def a10_c0:ACode:=(.cond (.tmp 11) (sr [(oP 2 (.mov (kI 2)))]
 .ret) .skip)
def a10_c1:ACode:=(.cond (.tmp 33) (sr [(oP 2 (.mov (kI 3)))]
 .ret) .skip)
def a10_c2:ACode:=(sr [(oP 2 (.mov (kI 0)))]
 .ret)
def a10_c3:ACode:=(.seq (sr [(oP 12 (.faddr 1 (.tmp 1))),(oP 13 (.load false 1 (.tmp 12))),(oP 14 (.bin .lss (.tmp 13) (kI 0))),(mV 15 14),⟨(some 16),(.faddr 1 (.tmp 1)),(some (15,false))⟩,⟨(some 17),(.load false 1 (.tmp 16)),(some (15,false))⟩,⟨(some 18),(.faddr 0 (.tmp 1)),(some (15,false))⟩,⟨(some 19),(.load false 1 (.tmp 18)),(some (15,false))⟩,⟨(some 20),(.len (.tmp 19)),(some (15,false))⟩,⟨(some 21),(.bin .geq (.tmp 17) (.tmp 20)),(some (15,false))⟩,(oP 22 (.pick (.tmp 15) kT (.tmp 21))),(mV 23 22),⟨(some 24),(.faddr 0 (.tmp 1)),(some (23,false))⟩,⟨(some 25),(.load false 1 (.tmp 24)),(some (23,false))⟩,⟨(some 26),(.call 31 [(.tmp 25),(.const (.c (.fn (.func 33) [] [])))]),(some (23,false))⟩,(oP 27 (.pick (.tmp 23) kT (.tmp 26))),(mV 28 27),⟨(some 29),(.faddr 0 (.tmp 1)),(some (28,false))⟩,⟨(some 30),(.load false 1 (.tmp 29)),(some (28,false))⟩,⟨(some 31),(.call 35 [(.tmp 30)]),(some (28,false))⟩,⟨(some 32),(.un .not (.tmp 31)),(some (28,false))⟩,(oP 33 (.pick (.tmp 28) kT (.tmp 32)))]
 a10_c1)
 a10_c2)
def a10:AFunc:=⟨1,[(.tmp 2)],(sr [(oP 1 (.box (.tmp 0))),(oP 2 (.mov (kI 0)))]
 (.seq (sr [(oP 3 (.faddr 0 (.tmp 1))),(oP 4 (.load false 1 (.tmp 3))),(oP 5 (.len (.tmp 4))),(oP 6 (.bin .gtr (.tmp 5) (kI 50))),(mV 7 6),⟨(some 8),(.faddr 0 (.tmp 1)),(some (7,false))⟩,⟨(some 9),(.load false 1 (.tmp 8)),(some (7,false))⟩,⟨(some 10),(.call 31 [(.tmp 9),(.const (.c (.fn (.func 32) [] [])))]),(some (7,false))⟩,(oP 11 (.pick (.tmp 7) kT (.tmp 10)))]
 a10_c0)
 a10_c3))⟩
theorem c10:compFunc Tryz.prog 10=some a10:=by kernel_rfl
def Z4j (r:Int):AV→Heap→Nat→Prop:=fun v h' n' => v=(I r)∧(h' = e0)∧n' = 0
abbrev Ze2 (mL:Int) (o:Int):AExit→St→Prop:=AThen (Sv Tryz.prog (GG mL) 0 a10_c2 (Ends a10.results 0 (Z4j o))) (Ends a10.results 0 (Z4j o))
noncomputable def Z4k (v33:Bool):Option Int :=
 if v33 then
  some 3
 else
  some 0
theorem Z6v {mL:Int}{v33:Bool}{o:Int}(h:Z4k v33=some o) :
  Sv Tryz.prog (GG mL) 0 a10_c1 (Ze2 mL o) ⟨(upd e0 33 (some (B v33))),e0,0⟩:=by
 unfold Z4k at h
 refine Sv.cnd rfl h (fun h=>?_) fun h=>?_
 ·refine ssr<|un1 rfl<|dnil<|Sv.ret ?_
  exact rt0 h rfl rfl ⟨rfl,rfl,rfl⟩
 ·refine Sv.skip<|ssr<|un1 rfl<|dnil<|Sv.ret ?_
  exact rt0 h rfl rfl ⟨rfl,rfl,rfl⟩
abbrev Ze3 (mL:Int) (o:Int):AExit→St→Prop:=AThen (Sv Tryz.prog (GG mL) 0 a10_c3 (Ends a10.results 0 (Z4j o))) (Ends a10.results 0 (Z4j o))
noncomputable def Z4l (t_:TJTrail) (v11:Bool):Option Int :=
 if v11 then
  some 2
 else
  if ((decide (t_.At<0))||(decide ((t_.Entries.length:Int)≤t_.At))) then
   Z4k true
  else
   (Z4h t_.Entries).bind fun r_ =>
   if r_ then
    Z4k true
   else
    (Z4i t_.Entries).bind fun r_1 =>
    Z4k (!r_1)
theorem Z9a {mL:Int}{t_:TJTrail}{v11:Bool}{o:Int}(h:Z4l t_ v11=some o) :
  Sv Tryz.prog (GG mL) 0 a10_c0 (Ze3 mL o) ⟨(ue [(11,(B v11)),(1,(.c (.ref 0 2 0 0)))]),(upd e0 0 (some (.cells 2 [(e_TJTrail t_)]))),1⟩:=by
 unfold Z4l at h
 refine Sv.cnd rfl h (fun h=>?_) fun h=>?_
 ·refine ssr<|un1 rfl<|dnil<|Sv.ret ?_
  exact rt0 h rfl rfl ⟨rfl,rfl,rfl⟩
 ·refine Sv.skip<|Sv.seq<|ssr<|un1 (v:=(.c (.ref 0 2 0 1))) rfl<|un1 (v:=(I t_.At)) rfl<|un1 (v:=(B (decide (t_.At<0)))) rfl<|un1 rfl ?_
  refine gjoin 7 (d:=22) (v:=(B ((decide (t_.At<0))||(decide ((t_.Entries.length:Int)≤t_.At))))) (fun X hX=>?_) ?_
  ·refine split2 (fun hc3=>?_) (fun hc3=>?_)
   ·repeat (first | refine gu rfl ?_ | refine gs rfl rfl ?_)
    refine un1 (v:=(B true)) rfl<|dnil ?_
    exact hX _ (.putEq (by rw [hc3]; rfl) (by repeat (first | exact .putEq (by rw [hc3]) (.refl _) | refine .skp ?_ rfl)))
   ·refine gt rfl<|a1 (v:=(.c (.ref 0 2 0 1))) rfl<|gt rfl<|a1 (v:=(I t_.At)) rfl<|gt rfl<|a1 (v:=(.c (.ref 0 2 0 0))) rfl<|gt rfl<|a1 (v:=(.c (.ro false 3 (t_.Entries.map e_TJEntry)))) rfl<|gt rfl<|a1 (v:=(I (t_.Entries.length:Int))) (s_len (e:=e_TJEntry) (xs:=t_.Entries) rfl)<|gt rfl<|a1 (v:=(B (decide ((t_.Entries.length:Int)≤t_.At)))) rfl<|un1 (v:=(B (decide ((t_.Entries.length:Int)≤t_.At)))) rfl<|dnil ?_
    exact hX _ (.putEq (by rw [hc3]; rfl) (by repeat (first | exact .putEq (by rw [hc3]) (.refl _) | refine .skp ?_ rfl)))
  refine un1 rfl ?_
  refine spl h (fun h=>?_) fun h=>?_
  ·refine gs rfl rfl<|gs rfl rfl<|gs rfl rfl<|un1 (v:=(B true)) rfl<|un1 rfl<|gs rfl rfl<|gs rfl rfl<|gs rfl rfl<|gs rfl rfl<|un1 (v:=(B true)) rfl<|dnil ?_
   exact Sv.weak (wcn [] rfl (.cf rfl rfl .nil) .nil) (Z6v h)
  ·refine gt rfl<|a1 (v:=(.c (.ref 0 2 0 0))) rfl<|gt rfl<|a1 (v:=(.c (.ro false 3 (t_.Entries.map e_TJEntry)))) rfl ?_
   obtain ⟨r_,hr1,h⟩:=bnd h
   refine gt rfl<|ac_pure (Zdu hr1) rfl rfl rfl<|un1 (v:=(B r_)) rfl<|un1 rfl ?_
   refine spl h (fun h=>?_) fun h=>?_
   ·refine gs rfl rfl<|gs rfl rfl<|gs rfl rfl<|gs rfl rfl<|un1 (v:=(B true)) rfl<|dnil ?_
    exact Sv.weak (wcn [] rfl (.cf rfl rfl .nil) .nil) (Z6v h)
   ·refine gt rfl<|a1 (v:=(.c (.ref 0 2 0 0))) rfl<|gt rfl<|a1 (v:=(.c (.ro false 3 (t_.Entries.map e_TJEntry)))) rfl ?_
    obtain ⟨r_1,hr2,h⟩:=bnd h
    refine gt rfl<|ac_pure (Ze1 hr2) rfl rfl rfl<|gt rfl<|a1 (v:=(B (!r_1))) rfl<|un1 (v:=(B (!r_1))) rfl<|dnil ?_
    exact Sv.weak (wcn [] rfl (.cf rfl rfl .nil) .nil) (Z6v h)
noncomputable def Z2i (t_:TJTrail):Option Int :=
 if decide (50<(t_.Entries.length:Int)) then
  Z4l t_ true
 else
  (Z4e t_.Entries).bind fun r_2 =>
  Z4l t_ r_2
theorem Z6w {mL:Int}{t_:TJTrail}{r:Int}(h:Z2i t_=some r):CPure Tryz.prog (GG mL) 10 [(.agg (e_TJTrail t_))] (I r):=by
 refine acalls_of_sv hmix c10 (R:=Z4j r) ?_
 unfold Z2i at h
 refine ssr<|un<|a2v (v:=(.c (.ref 0 2 0 0))) (h' := upd _ 0 (some (.cells 2 [(e_TJTrail t_)]))) (n' := 1) rfl rfl hcs<|un1 rfl<|dnil<|Sv.seq<|ssr<|un1 (v:=(.c (.ref 0 2 0 0))) rfl<|un1 (v:=(.c (.ro false 3 (t_.Entries.map e_TJEntry)))) rfl<|un1 (v:=(I (t_.Entries.length:Int))) (s_len (e:=e_TJEntry) (xs:=t_.Entries) rfl)<|un1 (v:=(B (decide (50<(t_.Entries.length:Int))))) rfl<|un1 rfl ?_
 refine spl h (fun h=>?_) fun h=>?_
 ·refine gs rfl rfl<|gs rfl rfl<|gs rfl rfl<|un1 (v:=(B true)) rfl<|dnil ?_
  exact Sv.weak (wcn [0] rfl (.cf rfl rfl (.cr rfl rfl rfl .nil)) (.box (by decide) rfl (blkAs_cells (.sm rfl (.sm rfl .nil))) .nil)) (Z9a h)
 ·refine gt rfl<|a1 (v:=(.c (.ref 0 2 0 0))) rfl<|gt rfl<|a1 (v:=(.c (.ro false 3 (t_.Entries.map e_TJEntry)))) rfl ?_
  obtain ⟨r_2,hr3,h⟩:=bnd h
  refine gt rfl<|ac_pure (Zdk hr3) rfl rfl rfl<|un1 (v:=(B r_2)) rfl<|dnil ?_
  exact Sv.weak (wcn [0] rfl (.cf rfl rfl (.cr rfl rfl rfl .nil)) (.box (by decide) rfl (blkAs_cells (.sm rfl (.sm rfl .nil))) .nil)) (Z9a h)
def a17:AFunc:=⟨1,[(.cell true 3 2)],(sr [(oP 1 (.box (.tmp 0))),(oP 2 (.box (.const (.agg [(.str []),(.str []),(.val (.int .i64 0))]))))]
 (sr [(oP 3 (.faddr 0 (.tmp 1))),(oP 4 (.load false 1 (.tmp 3))),(oP 5 (.faddr 1 (.tmp 1))),(oP 6 (.load false 1 (.tmp 5))),(oP 7 (.iaddr 3 (.tmp 4) (.tmp 6))),(oP 8 (.load true 3 (.tmp 7))),(oN (.store 3 (.tmp 2) (.tmp 8)))]
 .ret))⟩
theorem c17:compFunc Tryz.prog 17=some a17:=by kernel_rfl
def Ze4 (r:TJEntry):AV→Heap→Nat→Prop:=fun v h' n' => v=(.agg (e_TJEntry r))∧(h' = e0)∧n' = 0
noncomputable def Zn (t_:TJTrail):Option TJEntry :=
 (at? t_.Entries t_.At).bind fun x_ =>
 some x_
theorem Z1c {mL:Int}{t_:TJTrail}{r:TJEntry}(h:Zn t_=some r):CPure Tryz.prog (GG mL) 17 [(.agg (e_TJTrail t_))] (.agg (e_TJEntry r)):=by
 refine acalls_of_sv hmix c17 (R:=Ze4 r) ?_
 unfold Zn at h
 refine ssr<|un<|a2v (v:=(.c (.ref 0 2 0 0))) (h' := upd _ 0 (some (.cells 2 [(e_TJTrail t_)]))) (n' := 1) rfl rfl hcs<|un<|a2v (v:=(.c (.ref 1 3 0 0))) (h' := upd _ 1 (some (.cells 3 [[.str [],.str [],cI 0]]))) (n' := 2) rfl rfl hcs<|dnil<|ssr<|un1 (v:=(.c (.ref 0 2 0 0))) rfl<|un1 (v:=(.c (.ro false 3 (t_.Entries.map e_TJEntry)))) rfl<|un1 (v:=(.c (.ref 0 2 0 1))) rfl<|un1 (v:=(I t_.At)) rfl ?_
 obtain ⟨x_,hx1,h⟩:=bnd h
 refine un1 (v:=(.c (.rop (e_TJEntry x_)))) (s_iaddr (e:=e_TJEntry) (xs:=t_.Entries) rfl rfl hx1)<|un1 (v:=(.agg (e_TJEntry x_))) rfl<|un<|a2n (h' := upd _ 1 (some (.cells 3 [(e_TJEntry x_)]))) (n' := 2) rfl rfl hcs<|dnil<|Sv.ret ?_
 exact rt0 h rfl rfl ⟨rfl,rfl,rfl⟩
def a16:AFunc:=⟨2,[(.tmp 4),(.tmp 5)],(sr [(oP 2 (.box (.tmp 0))),(oP 4 (.mov (.const (.c (.str []))))),(oP 5 (.mov (kI 0)))]
 (.seq (sr [(oP 7 (.load true 2 (.tmp 2))),(oP 8 (.call 10 [(.tmp 7)])),(mV 6 8)]
 (sr [(mV 9 6),(oP 10 (.bin .neq (.tmp 9) (kI 0)))]
 (.cond (.tmp 10) (sr [(mV 11 6),(oP 4 (.mov (.const (.c (.str []))))),(mV 5 11)]
 .ret) .skip)))
 (sr [(oP 12 (.load true 2 (.tmp 2))),(oP 13 (.call 17 [(.tmp 12)])),(oP 14 (.fld false 0 1 (.tmp 13))),(mV 15 1),(oP 16 (.call 15 [(.tmp 14),(.tmp 15)])),(oP 17 (.ext (.tmp 16) 0)),(oP 18 (.ext (.tmp 16) 1)),(mV 4 17),(mV 5 18)]
 .ret)))⟩
theorem c16:compFunc Tryz.prog 16=some a16:=by kernel_rfl
def Ze5 (r:(Tx×Int)):AV→Heap→Nat→Prop:=fun v h' n' => v=(.tup [(S r.1),(I r.2)])∧(h' = e0)∧n' = 0
noncomputable def Z1t (t_:TJTrail) (ref:Tx):Option (Tx×Int) :=
 (Z2i t_).bind fun r_ =>
 if (!decide (r_=0)) then
  some ([],r_)
 else
  (Zn t_).bind fun r_1 =>
  (Zl r_1.Url ref).bind fun r_2 =>
  some (r_2.1,r_2.2)
theorem Z9b {mL:Int}{t_:TJTrail}{ref:Tx}{r:(Tx×Int)}(h:Z1t t_ ref=some r):CPure Tryz.prog (GG mL) 16 [(.agg (e_TJTrail t_)),(S ref)] (.tup [(S r.1),(I r.2)]):=by
 refine acalls_of_sv hmix c16 (R:=Ze5 r) ?_
 unfold Z1t at h
 refine ssr<|un<|a2v (v:=(.c (.ref 0 2 0 0))) (h' := upd _ 0 (some (.cells 2 [(e_TJTrail t_)]))) (n' := 1) rfl rfl hcs<|un1 rfl<|un1 rfl<|dnil<|Sv.seq<|ssr<|un1 (v:=(.agg (e_TJTrail t_))) rfl ?_
 obtain ⟨r_,hr1,h⟩:=bnd h
 refine un<|ac_pure (Z6w hr1) rfl rfl rfl<|un1 rfl<|dnil<|ssr<|un1 rfl<|un1 (v:=(B (!decide (r_=0)))) rfl<|dnil ?_
 refine Sv.cnd rfl h (fun h=>?_) fun h=>?_
 ·refine ssr<|un1 rfl<|un1 rfl<|un1 rfl<|dnil<|Sv.ret ?_
  exact rt0 h rfl rfl ⟨rfl,rfl,rfl⟩
 ·refine Sv.skip<|ssr<|un1 (v:=(.agg (e_TJTrail t_))) rfl ?_
  obtain ⟨r_1,hr2,h⟩:=bnd h
  refine un<|ac_pure (Z1c hr2) rfl rfl rfl<|un1 (v:=(S r_1.Url)) rfl<|un1 rfl ?_
  obtain ⟨r_2,hr3,h⟩:=bnd h
  refine un<|ac_pure (Z6s hr3) rfl rfl rfl<|un1 (v:=(S r_2.1)) rfl<|un1 (v:=(I r_2.2)) rfl<|un1 rfl<|un1 rfl<|dnil<|Sv.ret ?_
  exact rt0 h rfl rfl ⟨rfl,rfl,rfl⟩
noncomputable abbrev Z2j (s_:Tx) (substr_:Tx):Option Bool:=contains? s_ substr_
theorem Z4m {mL:Int}{s_:Tx}{substr_:Tx}{r:Bool}(h:Z2j s_ substr_=some r):CPure Tryz.prog (GG mL) 18 [(S s_),(S substr_)] (B r):=contains_ok (m:=mL) Tryz.lays144 rfl h
def a19:AFunc:=⟨1,[(.tmp 2)],(sr [(oP 2 (.mov (.const (.c (.str [])))))]
 (sr [(mV 4 0),(oP 5 (.call 44 [(.tmp 4),(.const (.c (.str [35])))])),(mV 3 5),(oP 6 (.ext (.tmp 3) 0)),(oP 7 (.ext (.tmp 3) 1)),(oP 8 (.ext (.tmp 3) 2)),(mV 0 6)]
 (sr [(mV 9 0),(mV 2 9)]
 .ret)))⟩
theorem c19:compFunc Tryz.prog 19=some a19:=by kernel_rfl
def Ze6 (r:Tx):AV→Heap→Nat→Prop:=fun v h' n' => v=(S r)∧(h' = e0)∧n' = 0
noncomputable def Z1u (s_:Tx):Option Tx :=
 (Z3v s_ [35]).bind fun r_ =>
 some r_.1
theorem Z9c {mL:Int}{s_:Tx}{r:Tx}(h:Z1u s_=some r):CPure Tryz.prog (GG mL) 19 [(S s_)] (S r):=by
 refine acalls_of_sv hmix c19 (R:=Ze6 r) ?_
 unfold Z1u at h
 refine ssr<|un1 rfl<|dnil<|ssr<|un1 rfl ?_
 obtain ⟨r_,hr1,h⟩:=bnd h
 refine un<|ac_pure (Z5a hr1) rfl rfl rfl<|un1 rfl<|un1 (v:=(S r_.1)) rfl<|un1 (v:=(S r_.2.1)) rfl<|un1 (v:=(B r_.2.2)) rfl<|un1 rfl<|dnil<|ssr<|un1 rfl<|un1 rfl<|dnil<|Sv.ret ?_
 exact rt0 h rfl rfl ⟨rfl,rfl,rfl⟩
def a22:AFunc:=⟨1,[(.tmp 2)],(sr [(oP 2 (.mov (.const (.c (.ro true 3 [])))))]
 (.seq (sr [(mV 3 0),(oP 4 (.eqn false (.tmp 3)))]
 (.cond (.tmp 4) (sr [(oP 2 (.mov (.const (.c (.ro true 3 [])))))]
 .ret) .skip))
 (sr [(oP 5 (.bslice 3 [(.str []),(.str []),(.val (.int .i64 0))] 0 [])),(mV 6 0),(oP 7 (.app 3 40 (.tmp 5) (.tmp 6))),(mV 2 7)]
 .ret)))⟩
theorem c22:compFunc Tryz.prog 22=some a22:=by kernel_rfl
def Z9d (r:(List TJEntry)):AV→Heap→Nat→Prop:=fun v h' n' => ∃ z0:Bool,(z0=true→r=[])∧v=(lstV z0 0 3 r.length)∧(h' = (upd e0 0 (lstB z0 3 (r.map e_TJEntry))))∧n' = 1
noncomputable def Z1d (s_:(List TJEntry)):Option (List TJEntry) :=
 (app? 40 ([]:List TJEntry) s_).bind fun r_ =>
 some r_
theorem Z2k {mL:Int}{s_:(List TJEntry)}{r:(List TJEntry)}(h:Z1d s_=some r):ACalls Tryz.prog (GG mL) 22 [(.c (.ro false 3 (s_.map e_TJEntry)))] e0 0 (Z9d r):=by
 refine acalls_of_sv hmix c22 (R:=Z9d r) ?_
 unfold Z1d at h
 refine ssr<|un1 rfl<|dnil<|Sv.seq<|ssr<|un1 rfl ?_
 refine un (a1n (e:=e_TJEntry) (xs:=s_) rfl (fun hn1=>?_) ?_)
 ·replace h:(some ([]:List TJEntry))=some r:=by rw [hn1] at h; exact h
  refine dnil<|Sv.condT rfl<|ssr<|un1 rfl<|dnil<|Sv.ret ?_
  replace h:=Option.some.inj h
  subst h
  exact ⟨_,.refl _,_,rfl,⟨upd e0 0 (some (lstV true 0 3 ([]:List TJEntry).length)),(upd e0 0 (lstB true 3 (([]:List TJEntry).map e_TJEntry))),1⟩,(lstV true 0 3 ([]:List TJEntry).length),weak_canon2 [1000] [0] (by decide) (by decide) nlz (.cons (by decide) .nil) (.cons rfl (.c (.same rfl)) .nil) (.non (by decide) .nil),rfl,true,(fun _=>rfl),rfl,rfl,rfl⟩
 ·refine dnil<|Sv.condF rfl<|Sv.skip<|ssr<|un<|a2v (v:=(lstV false 0 3 ([]:List TJEntry).length)) (h' := upd _ 0 (lstB false 3 (([]:List TJEntry).map e_TJEntry))) (n' := 1) rfl rfl hcs<|un1 rfl ?_
  obtain ⟨r_,hr1,h⟩:=bnd h
  have hz1:(false&&s_.isEmpty)=true→r_=[]:=app_nil (z:=false) (ys:=s_) hcs hr1
  replace hz1:false=true→r_=[]:=hz1
  refine un<|a2v rfl (s_app (xs:=([]:List TJEntry)) (ys:=s_) (e:=e_TJEntry) (z:=false) (b:=0) rfl rfl hcs rfl rfl (slc_ro) hr1) hcs<|un1 rfl<|dnil<|Sv.ret ?_
  replace h:=Option.some.inj h
  subst h
  exact ⟨_,.refl _,_,rfl,⟨upd e0 0 (some (lstV false 0 3 r_.length)),(upd e0 0 (lstB false 3 (r_.map e_TJEntry))),1⟩,(lstV false 0 3 r_.length),weak_canon2 [1] [0] (by decide) (by decide) nlz (.cons (by decide) .nil) (.cons rfl (.c (lsr rfl rfl)) .nil) (.row (by decide) rfl (fr_map fun _=>rfl) .nil),rfl,false,hz1,rfl,rfl,rfl⟩
end Go.Proofs.YtngonchkhmjenaaGreatDoorBv
